import Derived.Test.Qxb6500749aCyc
import Derived.LoopN
namespace Go.Proofs.Qxb6500749a
open Go.RowKit
attribute [local go_sem] put_size put_cell_same put_cell_ne put_frozen_same put_frozen_ne put_setCell_same put_setCell_ne put_drew
attribute [local go_sem] drewN_setCell drewN_alloc drewN_put
/-! ### One step of a script -/
structure OpD where
  k : Int
  a : Int
  b : Int
  c : Int
  d : Int
  e : Int
def opV (o : OpD) : Array Value := #[.int .u8 o.k, .int .u32 o.a, .int .u32 o.b, .int .u32 o.c, .int .u32 o.d, .int .u32 o.e]
structure OpD.Ok (o : OpD) : Prop where
  k : 0 ≤ o.k ∧ o.k < 256
  a : W32 o.a
  b : W32 o.b
  c : W32 o.c
  d : W32 o.d
  e : W32 o.e
theorem idx0 (x0 x1 x2 x3 : Int) (V : World) : (Instr.index 99 (.agg #[.int .u32 x0, .int .u32 x1, .int .u32 x2, .int .u32 x3]) (.int .i64 0)).run Try.prog V = .ok (.int .u32 x0) V := by kernel_rfl
theorem idx1 (x0 x1 x2 x3 : Int) (V : World) : (Instr.index 99 (.agg #[.int .u32 x0, .int .u32 x1, .int .u32 x2, .int .u32 x3]) (.int .i64 1)).run Try.prog V = .ok (.int .u32 x1) V := by kernel_rfl
theorem idx2 (x0 x1 x2 x3 : Int) (V : World) : (Instr.index 99 (.agg #[.int .u32 x0, .int .u32 x1, .int .u32 x2, .int .u32 x3]) (.int .i64 2)).run Try.prog V = .ok (.int .u32 x2) V := by kernel_rfl
theorem idx3 (x0 x1 x2 x3 : Int) (V : World) : (Instr.index 99 (.agg #[.int .u32 x0, .int .u32 x1, .int .u32 x2, .int .u32 x3]) (.int .i64 3)).run Try.prog V = .ok (.int .u32 x3) V := by kernel_rfl
def cycN : Nat → RG → RG
  | 0, R => R
  | n + 1, R => cycN n (cycR R)
def fdO (o : OpD) : FD := ⟨o.a, o.b.toNat, o.c, o.d, o.e⟩
def descR (R : RG) (a b c d e : Int) : RG := { pokR (pokR (pokR (pokR R a b) (a + 4) c) (a + 8) d) (a + 12) ((crcF b c d + e) % 4294967296) with hd := true, desc := a }
def stpR (R : RG) (o : OpD) : RG :=
  if o.k = 0 then (if R.run = true ∨ R.prog.length = 64 then R else { R with prog := R.prog ++ [o.a] })
  else if o.k = 1 then (if R.run = true ∨ mapF o.a = false then R else pokR R o.a o.b)
  else if o.k = 2 then (if R.run = true ∨ o.e ≥ 4 then R else if cmpS o.a = true ∧ R.hc = false then { R with hc := true, fc := fdO o } else if cmpS o.a = false ∧ R.ho = false then { R with ho := true, fo := fdO o } else R)
  else if o.k = 3 then { R with uP := queF R.uP o.a, uD := queF R.uD o.a }
  else if o.k = 4 then (if o.a > 400 then R else cycN o.a.toNat R)
  else if o.k = 5 then (if R.run = true ∨ mapF o.a = false ∨ mapF ((o.a + 12) % 4294967296) = false then R else descR R o.a o.b o.c o.d o.e)
  else R
def fr36 (rg n : Nat) (x : Int) (u : Nat → Value) : Act :=
  { tmps := ((.pointer (some ⟨rg, 0, none⟩)) :: (u 1) :: (u 2) :: (.pointer (some ⟨n, 0, none⟩)) :: (u 4) :: (u 5) :: (u 6) :: (u 7) :: (u 8) :: (.int .u32 x) :: (u 10) :: (u 11) :: (u 12) :: (u 13) :: (u 14) :: (u 15) :: (u 16) :: (u 17) :: (u 18) :: (u 19) :: (u 20) :: (u 21) :: (u 22) :: (u 23) :: (u 24) :: (u 25) :: (u 26) :: (u 27) :: (u 28) :: (u 29) :: (u 30) :: (u 31) :: (u 32) :: (u 33) :: (u 34) :: (u 35) :: (u 36) :: (u 37) :: (u 38) :: (u 39) :: (u 40) :: (u 41) :: (u 42) :: (u 43) :: (u 44) :: (u 45) :: (u 46) :: (u 47) :: (u 48) :: (u 49) :: (u 50) :: (u 51) :: (u 52) :: (u 53) :: (u 54) :: (u 55) :: (u 56) :: (u 57) :: (u 58) :: (u 59) :: (u 60) :: (u 61) :: (u 62) :: (u 63) :: (u 64) :: (u 65) :: (u 66) :: (u 67) :: (u 68) :: (u 69) :: (u 70) :: (u 71) :: (u 72) :: (u 73) :: (u 74) :: (u 75) :: (u 76) :: (u 77) :: (u 78) :: (u 79) :: (u 80) :: (u 81) :: (u 82) :: (u 83) :: (u 84) :: (u 85) :: (u 86) :: (u 87) :: (u 88) :: (u 89) :: (u 90) :: (u 91) :: (u 92) :: (u 93) :: (u 94) :: (u 95) :: (u 96) :: (u 97) :: (u 98) :: (u 99) :: (u 100) :: (u 101) :: (u 102) :: (u 103) :: (u 104) :: (u 105) :: (u 106) :: (u 107) :: (u 108) :: (u 109) :: (u 110) :: (u 111) :: (u 112) :: (u 113) :: (u 114) :: (u 115) :: (u 116) :: (u 117) :: (u 118) :: (u 119) :: (u 120) :: (u 121) :: (u 122) :: (u 123) :: (u 124) :: (u 125) :: (u 126) :: (u 127) :: (u 128) :: (u 129) :: (u 130) :: (u 131) :: (u 132) :: (u 133) :: (u 134) :: (u 135) :: (u 136) :: (u 137) :: (u 138) :: (u 139) :: (u 140) :: (u 141) :: (u 142) :: (u 143) :: (u 144) :: (u 145) :: (u 146) :: (u 147) :: (u 148) :: (u 149) :: (u 150) :: (u 151) :: (u 152) :: (u 153) :: (u 154) :: (u 155) :: (u 156) :: (u 157) :: (u 158) :: (u 159) :: (u 160) :: (u 161) :: (u 162) :: (u 163) :: (u 164) :: (u 165) :: (u 166) :: (u 167) :: (u 168) :: (u 169) :: (u 170) :: (u 171) :: (u 172) :: (u 173) :: (u 174) :: (u 175) :: (u 176) :: (u 177) :: (u 178) :: (u 179) :: (u 180) :: (u 181) :: (u 182) :: (u 183) :: (u 184) :: (u 185) :: (u 186) :: (u 187) :: (u 188) :: (u 189) :: (u 190) :: (u 191) :: (u 192) :: (u 193) :: (u 194) :: (u 195) :: (u 196) :: (u 197) :: (u 198) :: (u 199) :: (u 200) :: (u 201) :: (u 202) :: (u 203) :: [] : List Value).toArray, defers := [] }
def fr36g (rg n : Nat) (x0 x1 x2 x3 : Int) (i : Int) (u : Nat → Value) : Act :=
  { tmps := ((.pointer (some ⟨rg, 0, none⟩)) :: (u 1) :: (u 2) :: (.pointer (some ⟨n, 0, none⟩)) :: (u 4) :: (u 5) :: (u 6) :: (u 7) :: (u 8) :: (u 9) :: (u 10) :: (u 11) :: (u 12) :: (u 13) :: (u 14) :: (u 15) :: (u 16) :: (u 17) :: (u 18) :: (u 19) :: (u 20) :: (u 21) :: (u 22) :: (u 23) :: (u 24) :: (u 25) :: (u 26) :: (u 27) :: (u 28) :: (u 29) :: (u 30) :: (u 31) :: (u 32) :: (u 33) :: (u 34) :: (u 35) :: (u 36) :: (u 37) :: (u 38) :: (u 39) :: (u 40) :: (u 41) :: (u 42) :: (u 43) :: (u 44) :: (u 45) :: (u 46) :: (u 47) :: (u 48) :: (u 49) :: (u 50) :: (u 51) :: (u 52) :: (u 53) :: (u 54) :: (u 55) :: (u 56) :: (u 57) :: (u 58) :: (u 59) :: (u 60) :: (u 61) :: (u 62) :: (u 63) :: (u 64) :: (u 65) :: (u 66) :: (u 67) :: (u 68) :: (u 69) :: (u 70) :: (u 71) :: (u 72) :: (u 73) :: (u 74) :: (u 75) :: (u 76) :: (u 77) :: (u 78) :: (u 79) :: (u 80) :: (u 81) :: (u 82) :: (u 83) :: (u 84) :: (u 85) :: (u 86) :: (u 87) :: (u 88) :: (u 89) :: (u 90) :: (u 91) :: (u 92) :: (u 93) :: (u 94) :: (u 95) :: (u 96) :: (u 97) :: (u 98) :: (u 99) :: (u 100) :: (u 101) :: (u 102) :: (u 103) :: (u 104) :: (u 105) :: (u 106) :: (u 107) :: (u 108) :: (u 109) :: (u 110) :: (u 111) :: (u 112) :: (u 113) :: (u 114) :: (u 115) :: (u 116) :: (u 117) :: (u 118) :: (u 119) :: (u 120) :: (u 121) :: (u 122) :: (u 123) :: (u 124) :: (u 125) :: (u 126) :: (u 127) :: (u 128) :: (u 129) :: (u 130) :: (u 131) :: (u 132) :: (u 133) :: (u 134) :: (u 135) :: (u 136) :: (u 137) :: (u 138) :: (u 139) :: (u 140) :: (u 141) :: (u 142) :: (u 143) :: (u 144) :: (u 145) :: (u 146) :: (u 147) :: (u 148) :: (u 149) :: (u 150) :: (u 151) :: (u 152) :: (u 153) :: (u 154) :: (u 155) :: (u 156) :: (u 157) :: (u 158) :: (u 159) :: (u 160) :: (u 161) :: (u 162) :: (u 163) :: (u 164) :: (u 165) :: (u 166) :: (u 167) :: (u 168) :: (u 169) :: (u 170) :: (u 171) :: (u 172) :: (u 173) :: (u 174) :: (u 175) :: (u 176) :: (u 177) :: (u 178) :: (u 179) :: (u 180) :: (.agg #[.int .u32 x0, .int .u32 x1, .int .u32 x2, .int .u32 x3]) :: (.int .i64 i) :: (u 183) :: (u 184) :: (u 185) :: (u 186) :: (u 187) :: (u 188) :: (u 189) :: (u 190) :: (u 191) :: (u 192) :: (u 193) :: (u 194) :: (u 195) :: (u 196) :: (u 197) :: (u 198) :: (u 199) :: (u 200) :: (u 201) :: (u 202) :: (u 203) :: [] : List Value).toArray, defers := [] }
set_option linter.unusedVariables false in
set_option maxRecDepth 100000 in
set_option maxHeartbeats 4000000 in
theorem st_0a (own : Nat → Nat) (L : LY) (R : RG) (hR : ROk R) (hrun : R.run = true) (a b c d e : Int) (ha : W32 a) (hb : W32 b) (hc : W32 c) (hd : W32 d) (he : W32 e)  (w : World) (h : RR own w L R) :
    Calls Try.prog 36 #[.pointer (some ⟨L.rg, 0, none⟩), .agg #[.int .u8 0, .int .u32 a, .int .u32 b, .int .u32 c, .int .u32 d, .int .u32 e]] w fun e' w' => (∃ z, e' = .returned (.bool z)) ∧ ∃ own' L', RR own' w' L' R ∧ Ext own own' (fun k => k ≤ 18) w w' ∧ L'.rg = L.rg := by
  have c20 : w.cell? ⟨L.rg, 20, none⟩ = some (.pointer (some ⟨L.pb, 0, none⟩)) := by
    have h9 : w.cell? ⟨L.rg, 20, none⟩ = some (ptr R.run L.pb) := h.rg.1.cell 20
    rw [hrun] at h9
    exact h9
  obtain ⟨W, hW⟩ : ∃ W, w.alloc (.cells #[.int .u8 0, .int .u32 a, .int .u32 b, .int .u32 c, .int .u32 d, .int .u32 e] 73) = W := ⟨_, rfl⟩
  have hbe : Below w.heap.size w W := by rw [← hW]; exact (Below.refl _ _).alloc (Nat.le_refl _) _
  have hop : Blk W w.heap.size #[.int .u8 0, .int .u32 a, .int .u32 b, .int .u32 c, .int .u32 d, .int .u32 e] 73 := by rw [← hW]; exact Blk.new _ _ _
  have c20W : W.cell? ⟨L.rg, 20, none⟩ = some (.pointer (some ⟨L.pb, 0, none⟩)) := by rw [← hW]; exact ca1 _ _ _ _ c20
  have q0 : W.cell? ⟨w.heap.size, 0, none⟩ = some (.int .u8 0) := hop.cell 0
  have q1 : W.cell? ⟨w.heap.size, 1, none⟩ = some (.int .u32 a) := hop.cell 1
  have q2 : W.cell? ⟨w.heap.size, 2, none⟩ = some (.int .u32 b) := hop.cell 2
  have q3 : W.cell? ⟨w.heap.size, 3, none⟩ = some (.int .u32 c) := hop.cell 3
  have q4 : W.cell? ⟨w.heap.size, 4, none⟩ = some (.int .u32 d) := hop.cell 4
  have q5 : W.cell? ⟨w.heap.size, 5, none⟩ = some (.int .u32 e) := hop.cell 5
  have HW0 : Hid (RR own W L R) := h.below hbe
  have HX0 : Hid (Ext own own (fun k => k ≤ 18) w W) := Ext.of_below hbe
  have HOP := hid_of hop
  have HBE := hid_of hbe
  have HLT : Hid (L.rg < w.heap.size) := h.rg.1.lt
  have HOK := hid_of hR
  have HRUN := hid_of hrun
  have HH := hid_of h
  clear h hbe hop c20 hR hrun
  go_enter Try.func36, Try.ntmps36
  go_wp2_with fail
  go_ret
  exact ⟨⟨_, rfl⟩, own, L, HW0.out, HX0.out, rfl⟩
set_option linter.unusedVariables false in
set_option maxRecDepth 100000 in
set_option maxHeartbeats 4000000 in
theorem st_0b (own : Nat → Nat) (L : LY) (R : RG) (hR : ROk R) (hrun : R.run = false) (a b c d e : Int) (ha : W32 a) (hb : W32 b) (hc : W32 c) (hd : W32 d) (he : W32 e) (hl : R.prog.length = 64) (w : World) (h : RR own w L R) :
    Calls Try.prog 36 #[.pointer (some ⟨L.rg, 0, none⟩), .agg #[.int .u8 0, .int .u32 a, .int .u32 b, .int .u32 c, .int .u32 d, .int .u32 e]] w fun e' w' => (∃ z, e' = .returned (.bool z)) ∧ ∃ own' L', RR own' w' L' R ∧ Ext own own' (fun k => k ≤ 18) w w' ∧ L'.rg = L.rg := by
  have c20 : w.cell? ⟨L.rg, 20, none⟩ = some (.pointer none) := by
    have h9 : w.cell? ⟨L.rg, 20, none⟩ = some (ptr R.run L.pb) := h.rg.1.cell 20
    rw [hrun] at h9
    exact h9
  obtain ⟨W, hW⟩ : ∃ W, w.alloc (.cells #[.int .u8 0, .int .u32 a, .int .u32 b, .int .u32 c, .int .u32 d, .int .u32 e] 73) = W := ⟨_, rfl⟩
  have hbe : Below w.heap.size w W := by rw [← hW]; exact (Below.refl _ _).alloc (Nat.le_refl _) _
  have hop : Blk W w.heap.size #[.int .u8 0, .int .u32 a, .int .u32 b, .int .u32 c, .int .u32 d, .int .u32 e] 73 := by rw [← hW]; exact Blk.new _ _ _
  have c20W : W.cell? ⟨L.rg, 20, none⟩ = some (.pointer none) := by rw [← hW]; exact ca1 _ _ _ _ c20
  have q0 : W.cell? ⟨w.heap.size, 0, none⟩ = some (.int .u8 0) := hop.cell 0
  have q1 : W.cell? ⟨w.heap.size, 1, none⟩ = some (.int .u32 a) := hop.cell 1
  have q2 : W.cell? ⟨w.heap.size, 2, none⟩ = some (.int .u32 b) := hop.cell 2
  have q3 : W.cell? ⟨w.heap.size, 3, none⟩ = some (.int .u32 c) := hop.cell 3
  have q4 : W.cell? ⟨w.heap.size, 4, none⟩ = some (.int .u32 d) := hop.cell 4
  have q5 : W.cell? ⟨w.heap.size, 5, none⟩ = some (.int .u32 e) := hop.cell 5
  have HW0 : Hid (RR own W L R) := h.below hbe
  have HX0 : Hid (Ext own own (fun k => k ≤ 18) w W) := Ext.of_below hbe
  have HOP := hid_of hop
  have HBE := hid_of hbe
  have HLT : Hid (L.rg < w.heap.size) := h.rg.1.lt
  have HOK := hid_of hR
  have HRUN := hid_of hrun
  have HH := hid_of h
  clear h hbe hop c20 hR hrun
  obtain ⟨pa, pc, hpv⟩ := HW0.out.prog.1.form'
  rw [hl] at hpv
  have d0 : W.cell? ⟨L.rg, 0, none⟩ = some (.slice pa 64 pc) := by rw [← hpv]; exact HW0.out.rg.1.cell 0
  clear hl hpv
  go_enter Try.func36, Try.ntmps36
  go_wp2_with fail
  go_ret
  exact ⟨⟨_, rfl⟩, own, L, HW0.out, HX0.out, rfl⟩
set_option linter.unusedVariables false in
set_option maxRecDepth 100000 in
set_option maxHeartbeats 4000000 in
theorem st_0c (own : Nat → Nat) (L : LY) (R : RG) (hR : ROk R) (hrun : R.run = false) (a b c d e : Int) (ha : W32 a) (hb : W32 b) (hc : W32 c) (hd : W32 d) (he : W32 e) (hl : R.prog.length ≠ 64) (w : World) (h : RR own w L R) :
    Calls Try.prog 36 #[.pointer (some ⟨L.rg, 0, none⟩), .agg #[.int .u8 0, .int .u32 a, .int .u32 b, .int .u32 c, .int .u32 d, .int .u32 e]] w fun e' w' => (∃ z, e' = .returned (.bool z)) ∧ ∃ own' L', RR own' w' L' { R with prog := R.prog ++ [a] } ∧ Ext own own' (fun k => k ≤ 18) w w' ∧ L'.rg = L.rg := by
  have c20 : w.cell? ⟨L.rg, 20, none⟩ = some (.pointer none) := by
    have h9 : w.cell? ⟨L.rg, 20, none⟩ = some (ptr R.run L.pb) := h.rg.1.cell 20
    rw [hrun] at h9
    exact h9
  obtain ⟨W, hW⟩ : ∃ W, w.alloc (.cells #[.int .u8 0, .int .u32 a, .int .u32 b, .int .u32 c, .int .u32 d, .int .u32 e] 73) = W := ⟨_, rfl⟩
  have hbe : Below w.heap.size w W := by rw [← hW]; exact (Below.refl _ _).alloc (Nat.le_refl _) _
  have hop : Blk W w.heap.size #[.int .u8 0, .int .u32 a, .int .u32 b, .int .u32 c, .int .u32 d, .int .u32 e] 73 := by rw [← hW]; exact Blk.new _ _ _
  have c20W : W.cell? ⟨L.rg, 20, none⟩ = some (.pointer none) := by rw [← hW]; exact ca1 _ _ _ _ c20
  have q0 : W.cell? ⟨w.heap.size, 0, none⟩ = some (.int .u8 0) := hop.cell 0
  have q1 : W.cell? ⟨w.heap.size, 1, none⟩ = some (.int .u32 a) := hop.cell 1
  have q2 : W.cell? ⟨w.heap.size, 2, none⟩ = some (.int .u32 b) := hop.cell 2
  have q3 : W.cell? ⟨w.heap.size, 3, none⟩ = some (.int .u32 c) := hop.cell 3
  have q4 : W.cell? ⟨w.heap.size, 4, none⟩ = some (.int .u32 d) := hop.cell 4
  have q5 : W.cell? ⟨w.heap.size, 5, none⟩ = some (.int .u32 e) := hop.cell 5
  have HW0 : Hid (RR own W L R) := h.below hbe
  have HX0 : Hid (Ext own own (fun k => k ≤ 18) w W) := Ext.of_below hbe
  have HOP := hid_of hop
  have HBE := hid_of hbe
  have HLT : Hid (L.rg < w.heap.size) := h.rg.1.lt
  have HOK := hid_of hR
  have HRUN := hid_of hrun
  have HH := hid_of h
  clear h hbe hop c20 hR hrun
  obtain ⟨pa, pc, hpv⟩ := HW0.out.prog.1.form'
  obtain ⟨pn, hpn⟩ : ∃ pn, R.prog.length = pn := ⟨_, rfl⟩
  rw [hpn] at hpv hl
  have HPV := hid_of hpv
  have HPN := hid_of hpn
  have d0 : W.cell? ⟨L.rg, 0, none⟩ = some (.slice pa pn pc) := by rw [← hpv]; exact HW0.out.rg.1.cell 0
  have hl2 : (((pn : Nat) : Int) == 64) = false := by simp; omega
  have hl3 : pn ≤ 64 := by rw [← hpn]; exact HOK.out.plen
  obtain ⟨i0, hinf, hz0, hz1, hz2⟩ := info_parts info30
  have HWd : Hid (RR own W.drew L R) := HW0.out.drew
  have HRA : Hid (RR own (W.drew.alloc (.cells [.int .u32 a].toArray 30)) L R) := HWd.out.below ((Below.refl _ _).alloc (Nat.le_refl _) _)
  have HSW : Hid (Sl (W.drew.alloc (.cells [.int .u32 a].toArray 30)) (.slice pa pn pc) 30 1 pn (prow R.prog)) := by
    have h9 := HRA.out.prog.1
    rw [hpv, hpn] at h9
    exact h9
  have HJ2 : Hid ((W.drew.alloc (.cells [.int .u32 a].toArray 30)).cell? ⟨L.rg, 0, none⟩ = some (.slice pa pn pc) ∧ (W.drew.alloc (.cells [.int .u32 a].toArray 30)).cell? ⟨w.heap.size, 1, none⟩ = some (.int .u32 a)) := ⟨ca1 _ _ _ _ d0, ca1 _ _ _ _ q1⟩
  clear hpv hpn hl
  go_enter Try.func36, Try.ntmps36
  go_upto_region 7 with fail
  clear hW
  refine wp_region_float [0, 1, 2, 3, 4, 5, 6] [7, 8, 9, 10, 11] [0, 1, 2, 3, 5] mixed (fun ω => ω.cell? ⟨L.rg, 0, none⟩ = some (.slice pa pn pc) ∧ ω.cell? ⟨w.heap.size, 1, none⟩ = some (.int .u32 a)) (by kernel_rfl) rfl (by kernel_rfl) ⟨d0, q1⟩ ?_
  iterate 7 refine wpFl_op _ _ _ _ rfl rfl (fun ω hj => by
    first
    | (have j1 := (hj rfl).1
       have j2 := (hj rfl).2
       clear d0 q0 q1 q2 q3 q4 q5 c20W
       go_simp; rfl)
    | (go_simp; rfl)) ?_
  refine wpFl_nil _ _ ?_
  simp only [Act.put, List.setIfInBounds_toArray]
  refine wpCh_one _ _ _ _ rfl ?_
  go_wp2_with fail
  refine ⟨HJ2.out, ?_⟩
  refine wpCh_rest _ _ _ _ [_, _, _, _] _ _ rfl (by kernel_rfl) ?_
  simp only [List.getElem_toArray, List.getElem_cons_succ, List.getElem_cons_zero]
  go_wp2_with (at_builtin; (refine wpList_append_sl _ rfl (.tmp 34) (.tmp 37) 26 rfl 30 i0 (.int .u32 0) 1 4 Try.underlying26 hinf hz0 hz1 hz2 rfl (by decide) _ _ _ rfl HSW.out ⟨W.heap.size, 0, none⟩ 1 1 [.int .u32 a] rfl rfl ?d1 ?d2 ?d3 ?d4 ?_))
  try (case d1 => exact cells_new _ _ _ _ rfl)
  try (case d2 => first | rfl | (intro v hv; simp at hv; subst hv; rfl))
  try (case d3 => unfold maxLen; omega)
  try (case d4 => omega)
  intro v' w3 hsl3 hgr hnew
  obtain ⟨a3, c3, hv3⟩ := hsl3.form'
  subst hv3
  have hs3 : Sl w3 (.slice a3 (pn + 1) c3) 30 1 (R.prog ++ [a]).length (prow (R.prog ++ [a])) := by
    have e2 : prow (R.prog ++ [a]) = prow R.prog ++ [.int .u32 a] := by simp [prow]
    rw [List.length_append, List.length_singleton, HPN.out, e2]
    exact hsl3
  have hrep := HRA.out.instr HRUN.out (pv := .slice a3 (pn + 1) c3) (R.prog ++ [a]) (by rw [HPV.out]; exact hgr) hs3 (by rw [HPV.out]; exact fun k hk => or_le (hnew k hk) (by first | (rw [size_alloc']; exact Nat.le_refl _) | exact Nat.le_refl _))
  have hbg3 : Blk w3 L.rg (rigV L R) 38 := by
    refine (hgr.block _ HRA.out.rg.1.lt (fun e9 => ?_)).trans HRA.out.rg.1
    exact HRA.out.rg.1.sl_ne (by decide) HSW.out L.rg e9.symm rfl
  obtain ⟨u3, hu3, hl9⟩ := hbg3.out
  rw [hu3, put_put] at hrep
  have hu3' : w3 = put u3 L.rg #[L.pv, .map (some L.img), .pointer (some ⟨L.ubP, 0, none⟩), .pointer (some ⟨L.ubD, 0, none⟩), .bool R.hc, .bool R.ho, .int .u32 R.fc.site, .int .u32 (R.fc.bit : Nat), .int .u32 R.fc.cyc, .int .u32 R.fc.dur, .int .u8 R.fc.kind, .int .u32 R.fo.site, .int .u32 (R.fo.bit : Nat), .int .u32 R.fo.cyc, .int .u32 R.fo.dur, .int .u8 R.fo.kind, .bool R.kc, .bool R.ko, .bool R.hd, .int .u32 R.desc, .pointer none, .pointer none, L.rv] 38 := by
    rw [hu3]
    unfold rigV ptr
    rw [HRUN.out]
    rfl
  have hpe : rigV { L with pv := .slice a3 (pn + 1) c3 } R = #[.slice a3 (pn + 1) c3, .map (some L.img), .pointer (some ⟨L.ubP, 0, none⟩), .pointer (some ⟨L.ubD, 0, none⟩), .bool R.hc, .bool R.ho, .int .u32 R.fc.site, .int .u32 (R.fc.bit : Nat), .int .u32 R.fc.cyc, .int .u32 R.fc.dur, .int .u8 R.fc.kind, .int .u32 R.fo.site, .int .u32 (R.fo.bit : Nat), .int .u32 R.fo.cyc, .int .u32 R.fo.dur, .int .u8 R.fo.kind, .bool R.kc, .bool R.ko, .bool R.hd, .int .u32 R.desc, .pointer none, .pointer none, L.rv] := by
    unfold rigV ptr
    rw [HRUN.out]
    rfl
  rw [hpe] at hrep
  have HREP := hid_of hrep
  clear hrep hbg3 hs3 hgr hnew hsl3 HSW hinf hz0 hz1 hz2 hu3 hpe d0
  subst hu3'
  go_wp2_with fail
  go_ret
  have xa : Ext own own (fun k => k ≤ 18) W.drew (W.drew.alloc (.cells [.int .u32 a].toArray 30)) := Ext.alloc' _ _ _ _
  exact ⟨⟨_, rfl⟩, _, _, HREP.out.1, (HX0.out.drew.trans xa).trans HREP.out.2, rfl⟩
set_option linter.unusedVariables false in
set_option maxRecDepth 100000 in
set_option maxHeartbeats 4000000 in
theorem st_1a (own : Nat → Nat) (L : LY) (R : RG) (hR : ROk R) (hrun : R.run = true) (a b c d e : Int) (ha : W32 a) (hb : W32 b) (hc : W32 c) (hd : W32 d) (he : W32 e)  (w : World) (h : RR own w L R) :
    Calls Try.prog 36 #[.pointer (some ⟨L.rg, 0, none⟩), .agg #[.int .u8 1, .int .u32 a, .int .u32 b, .int .u32 c, .int .u32 d, .int .u32 e]] w fun e' w' => (∃ z, e' = .returned (.bool z)) ∧ ∃ own' L', RR own' w' L' R ∧ Ext own own' (fun k => k ≤ 18) w w' ∧ L'.rg = L.rg := by
  have c20 : w.cell? ⟨L.rg, 20, none⟩ = some (.pointer (some ⟨L.pb, 0, none⟩)) := by
    have h9 : w.cell? ⟨L.rg, 20, none⟩ = some (ptr R.run L.pb) := h.rg.1.cell 20
    rw [hrun] at h9
    exact h9
  obtain ⟨W, hW⟩ : ∃ W, w.alloc (.cells #[.int .u8 1, .int .u32 a, .int .u32 b, .int .u32 c, .int .u32 d, .int .u32 e] 73) = W := ⟨_, rfl⟩
  have hbe : Below w.heap.size w W := by rw [← hW]; exact (Below.refl _ _).alloc (Nat.le_refl _) _
  have hop : Blk W w.heap.size #[.int .u8 1, .int .u32 a, .int .u32 b, .int .u32 c, .int .u32 d, .int .u32 e] 73 := by rw [← hW]; exact Blk.new _ _ _
  have c20W : W.cell? ⟨L.rg, 20, none⟩ = some (.pointer (some ⟨L.pb, 0, none⟩)) := by rw [← hW]; exact ca1 _ _ _ _ c20
  have q0 : W.cell? ⟨w.heap.size, 0, none⟩ = some (.int .u8 1) := hop.cell 0
  have q1 : W.cell? ⟨w.heap.size, 1, none⟩ = some (.int .u32 a) := hop.cell 1
  have q2 : W.cell? ⟨w.heap.size, 2, none⟩ = some (.int .u32 b) := hop.cell 2
  have q3 : W.cell? ⟨w.heap.size, 3, none⟩ = some (.int .u32 c) := hop.cell 3
  have q4 : W.cell? ⟨w.heap.size, 4, none⟩ = some (.int .u32 d) := hop.cell 4
  have q5 : W.cell? ⟨w.heap.size, 5, none⟩ = some (.int .u32 e) := hop.cell 5
  have HW0 : Hid (RR own W L R) := h.below hbe
  have HX0 : Hid (Ext own own (fun k => k ≤ 18) w W) := Ext.of_below hbe
  have HOP := hid_of hop
  have HBE := hid_of hbe
  have HLT : Hid (L.rg < w.heap.size) := h.rg.1.lt
  have HOK := hid_of hR
  have HRUN := hid_of hrun
  have HH := hid_of h
  clear h hbe hop c20 hR hrun
  go_enter Try.func36, Try.ntmps36
  go_wp2_with fail
  go_ret
  exact ⟨⟨_, rfl⟩, own, L, HW0.out, HX0.out, rfl⟩
set_option linter.unusedVariables false in
set_option maxRecDepth 100000 in
set_option maxHeartbeats 4000000 in
theorem st_1b (own : Nat → Nat) (L : LY) (R : RG) (hR : ROk R) (hrun : R.run = false) (a b c d e : Int) (ha : W32 a) (hb : W32 b) (hc : W32 c) (hd : W32 d) (he : W32 e) (hm : mapF a = false) (w : World) (h : RR own w L R) :
    Calls Try.prog 36 #[.pointer (some ⟨L.rg, 0, none⟩), .agg #[.int .u8 1, .int .u32 a, .int .u32 b, .int .u32 c, .int .u32 d, .int .u32 e]] w fun e' w' => (∃ z, e' = .returned (.bool z)) ∧ ∃ own' L', RR own' w' L' R ∧ Ext own own' (fun k => k ≤ 18) w w' ∧ L'.rg = L.rg := by
  have c20 : w.cell? ⟨L.rg, 20, none⟩ = some (.pointer none) := by
    have h9 : w.cell? ⟨L.rg, 20, none⟩ = some (ptr R.run L.pb) := h.rg.1.cell 20
    rw [hrun] at h9
    exact h9
  obtain ⟨W, hW⟩ : ∃ W, w.alloc (.cells #[.int .u8 1, .int .u32 a, .int .u32 b, .int .u32 c, .int .u32 d, .int .u32 e] 73) = W := ⟨_, rfl⟩
  have hbe : Below w.heap.size w W := by rw [← hW]; exact (Below.refl _ _).alloc (Nat.le_refl _) _
  have hop : Blk W w.heap.size #[.int .u8 1, .int .u32 a, .int .u32 b, .int .u32 c, .int .u32 d, .int .u32 e] 73 := by rw [← hW]; exact Blk.new _ _ _
  have c20W : W.cell? ⟨L.rg, 20, none⟩ = some (.pointer none) := by rw [← hW]; exact ca1 _ _ _ _ c20
  have q0 : W.cell? ⟨w.heap.size, 0, none⟩ = some (.int .u8 1) := hop.cell 0
  have q1 : W.cell? ⟨w.heap.size, 1, none⟩ = some (.int .u32 a) := hop.cell 1
  have q2 : W.cell? ⟨w.heap.size, 2, none⟩ = some (.int .u32 b) := hop.cell 2
  have q3 : W.cell? ⟨w.heap.size, 3, none⟩ = some (.int .u32 c) := hop.cell 3
  have q4 : W.cell? ⟨w.heap.size, 4, none⟩ = some (.int .u32 d) := hop.cell 4
  have q5 : W.cell? ⟨w.heap.size, 5, none⟩ = some (.int .u32 e) := hop.cell 5
  have HW0 : Hid (RR own W L R) := h.below hbe
  have HX0 : Hid (Ext own own (fun k => k ≤ 18) w W) := Ext.of_below hbe
  have HOP := hid_of hop
  have HBE := hid_of hbe
  have HLT : Hid (L.rg < w.heap.size) := h.rg.1.lt
  have HOK := hid_of hR
  have HRUN := hid_of hrun
  have HH := hid_of h
  clear h hbe hop c20 hR hrun
  have HM := hid_of (mapped_any a ha W)
  rw [hm] at HM
  go_enter Try.func36, Try.ntmps36
  go_wp2_with fail
  refine HM.out.mono ?_
  rintro e' w1 ⟨rfl, hw1⟩
  obtain rfl := hw1.symm
  clear HM
  go_wp2_with fail
  go_ret
  exact ⟨⟨_, rfl⟩, own, L, HW0.out, HX0.out, rfl⟩
set_option linter.unusedVariables false in
set_option maxRecDepth 100000 in
set_option maxHeartbeats 4000000 in
theorem st_1c (own : Nat → Nat) (L : LY) (R : RG) (hR : ROk R) (hrun : R.run = false) (a b c d e : Int) (ha : W32 a) (hb : W32 b) (hc : W32 c) (hd : W32 d) (he : W32 e) (hm : mapF a = true) (w : World) (h : RR own w L R) :
    Calls Try.prog 36 #[.pointer (some ⟨L.rg, 0, none⟩), .agg #[.int .u8 1, .int .u32 a, .int .u32 b, .int .u32 c, .int .u32 d, .int .u32 e]] w fun e' w' => (∃ z, e' = .returned (.bool z)) ∧ ∃ own' L', RR own' w' L' (pokR R a b) ∧ Ext own own' (fun k => k ≤ 18) w w' ∧ L'.rg = L.rg := by
  have c20 : w.cell? ⟨L.rg, 20, none⟩ = some (.pointer none) := by
    have h9 : w.cell? ⟨L.rg, 20, none⟩ = some (ptr R.run L.pb) := h.rg.1.cell 20
    rw [hrun] at h9
    exact h9
  obtain ⟨W, hW⟩ : ∃ W, w.alloc (.cells #[.int .u8 1, .int .u32 a, .int .u32 b, .int .u32 c, .int .u32 d, .int .u32 e] 73) = W := ⟨_, rfl⟩
  have hbe : Below w.heap.size w W := by rw [← hW]; exact (Below.refl _ _).alloc (Nat.le_refl _) _
  have hop : Blk W w.heap.size #[.int .u8 1, .int .u32 a, .int .u32 b, .int .u32 c, .int .u32 d, .int .u32 e] 73 := by rw [← hW]; exact Blk.new _ _ _
  have c20W : W.cell? ⟨L.rg, 20, none⟩ = some (.pointer none) := by rw [← hW]; exact ca1 _ _ _ _ c20
  have q0 : W.cell? ⟨w.heap.size, 0, none⟩ = some (.int .u8 1) := hop.cell 0
  have q1 : W.cell? ⟨w.heap.size, 1, none⟩ = some (.int .u32 a) := hop.cell 1
  have q2 : W.cell? ⟨w.heap.size, 2, none⟩ = some (.int .u32 b) := hop.cell 2
  have q3 : W.cell? ⟨w.heap.size, 3, none⟩ = some (.int .u32 c) := hop.cell 3
  have q4 : W.cell? ⟨w.heap.size, 4, none⟩ = some (.int .u32 d) := hop.cell 4
  have q5 : W.cell? ⟨w.heap.size, 5, none⟩ = some (.int .u32 e) := hop.cell 5
  have HW0 : Hid (RR own W L R) := h.below hbe
  have HX0 : Hid (Ext own own (fun k => k ≤ 18) w W) := Ext.of_below hbe
  have HOP := hid_of hop
  have HBE := hid_of hbe
  have HLT : Hid (L.rg < w.heap.size) := h.rg.1.lt
  have HOK := hid_of hR
  have HRUN := hid_of hrun
  have HH := hid_of h
  clear h hbe hop c20 hR hrun
  have HM := hid_of (mapped_any a ha W)
  rw [hm] at HM
  have HPK := hid_of (rpoke_any own L R a b ha W HW0.out)
  go_enter Try.func36, Try.ntmps36
  go_wp2_with fail
  clear hW
  refine HM.out.mono ?_
  rintro e' w1 ⟨rfl, hw1⟩
  obtain rfl := hw1.symm
  clear HM
  go_wp2_with fail
  refine HPK.out.mono ?_
  rintro e' w2 ⟨rfl, h1, h2⟩
  have H1 := hid_of h1
  have H2 := hid_of h2
  clear HPK h1 h2 q0 q1 q2 q3 q4 q5 c20W
  go_wp2_with fail
  go_ret
  exact ⟨⟨_, rfl⟩, own, L, H1.out, HX0.out.trans H2.out, rfl⟩
set_option linter.unusedVariables false in
set_option maxRecDepth 100000 in
set_option maxHeartbeats 4000000 in
theorem st_2a (own : Nat → Nat) (L : LY) (R : RG) (hR : ROk R) (hrun : R.run = true) (a b c d e : Int) (ha : W32 a) (hb : W32 b) (hc : W32 c) (hd : W32 d) (he : W32 e)  (w : World) (h : RR own w L R) :
    Calls Try.prog 36 #[.pointer (some ⟨L.rg, 0, none⟩), .agg #[.int .u8 2, .int .u32 a, .int .u32 b, .int .u32 c, .int .u32 d, .int .u32 e]] w fun e' w' => (∃ z, e' = .returned (.bool z)) ∧ ∃ own' L', RR own' w' L' R ∧ Ext own own' (fun k => k ≤ 18) w w' ∧ L'.rg = L.rg := by
  have c20 : w.cell? ⟨L.rg, 20, none⟩ = some (.pointer (some ⟨L.pb, 0, none⟩)) := by
    have h9 : w.cell? ⟨L.rg, 20, none⟩ = some (ptr R.run L.pb) := h.rg.1.cell 20
    rw [hrun] at h9
    exact h9
  obtain ⟨W, hW⟩ : ∃ W, w.alloc (.cells #[.int .u8 2, .int .u32 a, .int .u32 b, .int .u32 c, .int .u32 d, .int .u32 e] 73) = W := ⟨_, rfl⟩
  have hbe : Below w.heap.size w W := by rw [← hW]; exact (Below.refl _ _).alloc (Nat.le_refl _) _
  have hop : Blk W w.heap.size #[.int .u8 2, .int .u32 a, .int .u32 b, .int .u32 c, .int .u32 d, .int .u32 e] 73 := by rw [← hW]; exact Blk.new _ _ _
  have c20W : W.cell? ⟨L.rg, 20, none⟩ = some (.pointer (some ⟨L.pb, 0, none⟩)) := by rw [← hW]; exact ca1 _ _ _ _ c20
  have q0 : W.cell? ⟨w.heap.size, 0, none⟩ = some (.int .u8 2) := hop.cell 0
  have q1 : W.cell? ⟨w.heap.size, 1, none⟩ = some (.int .u32 a) := hop.cell 1
  have q2 : W.cell? ⟨w.heap.size, 2, none⟩ = some (.int .u32 b) := hop.cell 2
  have q3 : W.cell? ⟨w.heap.size, 3, none⟩ = some (.int .u32 c) := hop.cell 3
  have q4 : W.cell? ⟨w.heap.size, 4, none⟩ = some (.int .u32 d) := hop.cell 4
  have q5 : W.cell? ⟨w.heap.size, 5, none⟩ = some (.int .u32 e) := hop.cell 5
  have HW0 : Hid (RR own W L R) := h.below hbe
  have HX0 : Hid (Ext own own (fun k => k ≤ 18) w W) := Ext.of_below hbe
  have HOP := hid_of hop
  have HBE := hid_of hbe
  have HLT : Hid (L.rg < w.heap.size) := h.rg.1.lt
  have HOK := hid_of hR
  have HRUN := hid_of hrun
  have HH := hid_of h
  clear h hbe hop c20 hR hrun
  go_enter Try.func36, Try.ntmps36
  go_wp2_with fail
  go_ret
  exact ⟨⟨_, rfl⟩, own, L, HW0.out, HX0.out, rfl⟩
set_option linter.unusedVariables false in
set_option maxRecDepth 100000 in
set_option maxHeartbeats 4000000 in
theorem st_2b (own : Nat → Nat) (L : LY) (R : RG) (hR : ROk R) (hrun : R.run = false) (a b c d e : Int) (ha : W32 a) (hb : W32 b) (hc : W32 c) (hd : W32 d) (he : W32 e) (h4 : e ≥ 4) (w : World) (h : RR own w L R) :
    Calls Try.prog 36 #[.pointer (some ⟨L.rg, 0, none⟩), .agg #[.int .u8 2, .int .u32 a, .int .u32 b, .int .u32 c, .int .u32 d, .int .u32 e]] w fun e' w' => (∃ z, e' = .returned (.bool z)) ∧ ∃ own' L', RR own' w' L' R ∧ Ext own own' (fun k => k ≤ 18) w w' ∧ L'.rg = L.rg := by
  have c20 : w.cell? ⟨L.rg, 20, none⟩ = some (.pointer none) := by
    have h9 : w.cell? ⟨L.rg, 20, none⟩ = some (ptr R.run L.pb) := h.rg.1.cell 20
    rw [hrun] at h9
    exact h9
  obtain ⟨W, hW⟩ : ∃ W, w.alloc (.cells #[.int .u8 2, .int .u32 a, .int .u32 b, .int .u32 c, .int .u32 d, .int .u32 e] 73) = W := ⟨_, rfl⟩
  have hbe : Below w.heap.size w W := by rw [← hW]; exact (Below.refl _ _).alloc (Nat.le_refl _) _
  have hop : Blk W w.heap.size #[.int .u8 2, .int .u32 a, .int .u32 b, .int .u32 c, .int .u32 d, .int .u32 e] 73 := by rw [← hW]; exact Blk.new _ _ _
  have c20W : W.cell? ⟨L.rg, 20, none⟩ = some (.pointer none) := by rw [← hW]; exact ca1 _ _ _ _ c20
  have q0 : W.cell? ⟨w.heap.size, 0, none⟩ = some (.int .u8 2) := hop.cell 0
  have q1 : W.cell? ⟨w.heap.size, 1, none⟩ = some (.int .u32 a) := hop.cell 1
  have q2 : W.cell? ⟨w.heap.size, 2, none⟩ = some (.int .u32 b) := hop.cell 2
  have q3 : W.cell? ⟨w.heap.size, 3, none⟩ = some (.int .u32 c) := hop.cell 3
  have q4 : W.cell? ⟨w.heap.size, 4, none⟩ = some (.int .u32 d) := hop.cell 4
  have q5 : W.cell? ⟨w.heap.size, 5, none⟩ = some (.int .u32 e) := hop.cell 5
  have HW0 : Hid (RR own W L R) := h.below hbe
  have HX0 : Hid (Ext own own (fun k => k ≤ 18) w W) := Ext.of_below hbe
  have HOP := hid_of hop
  have HBE := hid_of hbe
  have HLT : Hid (L.rg < w.heap.size) := h.rg.1.lt
  have HOK := hid_of hR
  have HRUN := hid_of hrun
  have HH := hid_of h
  clear h hbe hop c20 hR hrun
  go_enter Try.func36, Try.ntmps36
  go_wp2_with fail
  go_ret
  exact ⟨⟨_, rfl⟩, own, L, HW0.out, HX0.out, rfl⟩
set_option linter.unusedVariables false in
set_option maxRecDepth 100000 in
set_option maxHeartbeats 4000000 in
theorem st_4at (own : Nat → Nat) (L : LY) (R : RG) (hR : ROk R) (hrun : R.run = true) (a b c d e : Int) (ha : W32 a) (hb : W32 b) (hc : W32 c) (hd : W32 d) (he : W32 e) (h4 : a > 400) (w : World) (h : RR own w L R) :
    Calls Try.prog 36 #[.pointer (some ⟨L.rg, 0, none⟩), .agg #[.int .u8 4, .int .u32 a, .int .u32 b, .int .u32 c, .int .u32 d, .int .u32 e]] w fun e' w' => (∃ z, e' = .returned (.bool z)) ∧ ∃ own' L', RR own' w' L' R ∧ Ext own own' (fun k => k ≤ 18) w w' ∧ L'.rg = L.rg := by
  have c20 : w.cell? ⟨L.rg, 20, none⟩ = some (.pointer (some ⟨L.pb, 0, none⟩)) := by
    have h9 : w.cell? ⟨L.rg, 20, none⟩ = some (ptr R.run L.pb) := h.rg.1.cell 20
    rw [hrun] at h9
    exact h9
  obtain ⟨W, hW⟩ : ∃ W, w.alloc (.cells #[.int .u8 4, .int .u32 a, .int .u32 b, .int .u32 c, .int .u32 d, .int .u32 e] 73) = W := ⟨_, rfl⟩
  have hbe : Below w.heap.size w W := by rw [← hW]; exact (Below.refl _ _).alloc (Nat.le_refl _) _
  have hop : Blk W w.heap.size #[.int .u8 4, .int .u32 a, .int .u32 b, .int .u32 c, .int .u32 d, .int .u32 e] 73 := by rw [← hW]; exact Blk.new _ _ _
  have c20W : W.cell? ⟨L.rg, 20, none⟩ = some (.pointer (some ⟨L.pb, 0, none⟩)) := by rw [← hW]; exact ca1 _ _ _ _ c20
  have q0 : W.cell? ⟨w.heap.size, 0, none⟩ = some (.int .u8 4) := hop.cell 0
  have q1 : W.cell? ⟨w.heap.size, 1, none⟩ = some (.int .u32 a) := hop.cell 1
  have q2 : W.cell? ⟨w.heap.size, 2, none⟩ = some (.int .u32 b) := hop.cell 2
  have q3 : W.cell? ⟨w.heap.size, 3, none⟩ = some (.int .u32 c) := hop.cell 3
  have q4 : W.cell? ⟨w.heap.size, 4, none⟩ = some (.int .u32 d) := hop.cell 4
  have q5 : W.cell? ⟨w.heap.size, 5, none⟩ = some (.int .u32 e) := hop.cell 5
  have HW0 : Hid (RR own W L R) := h.below hbe
  have HX0 : Hid (Ext own own (fun k => k ≤ 18) w W) := Ext.of_below hbe
  have HOP := hid_of hop
  have HBE := hid_of hbe
  have HLT : Hid (L.rg < w.heap.size) := h.rg.1.lt
  have HOK := hid_of hR
  have HRUN := hid_of hrun
  have HH := hid_of h
  clear h hbe hop c20 hR hrun
  go_enter Try.func36, Try.ntmps36
  go_wp2_with fail
  go_ret
  exact ⟨⟨_, rfl⟩, own, L, HW0.out, HX0.out, rfl⟩
set_option linter.unusedVariables false in
set_option maxRecDepth 100000 in
set_option maxHeartbeats 4000000 in
theorem st_4af (own : Nat → Nat) (L : LY) (R : RG) (hR : ROk R) (hrun : R.run = false) (a b c d e : Int) (ha : W32 a) (hb : W32 b) (hc : W32 c) (hd : W32 d) (he : W32 e) (h4 : a > 400) (w : World) (h : RR own w L R) :
    Calls Try.prog 36 #[.pointer (some ⟨L.rg, 0, none⟩), .agg #[.int .u8 4, .int .u32 a, .int .u32 b, .int .u32 c, .int .u32 d, .int .u32 e]] w fun e' w' => (∃ z, e' = .returned (.bool z)) ∧ ∃ own' L', RR own' w' L' R ∧ Ext own own' (fun k => k ≤ 18) w w' ∧ L'.rg = L.rg := by
  have c20 : w.cell? ⟨L.rg, 20, none⟩ = some (.pointer none) := by
    have h9 : w.cell? ⟨L.rg, 20, none⟩ = some (ptr R.run L.pb) := h.rg.1.cell 20
    rw [hrun] at h9
    exact h9
  obtain ⟨W, hW⟩ : ∃ W, w.alloc (.cells #[.int .u8 4, .int .u32 a, .int .u32 b, .int .u32 c, .int .u32 d, .int .u32 e] 73) = W := ⟨_, rfl⟩
  have hbe : Below w.heap.size w W := by rw [← hW]; exact (Below.refl _ _).alloc (Nat.le_refl _) _
  have hop : Blk W w.heap.size #[.int .u8 4, .int .u32 a, .int .u32 b, .int .u32 c, .int .u32 d, .int .u32 e] 73 := by rw [← hW]; exact Blk.new _ _ _
  have c20W : W.cell? ⟨L.rg, 20, none⟩ = some (.pointer none) := by rw [← hW]; exact ca1 _ _ _ _ c20
  have q0 : W.cell? ⟨w.heap.size, 0, none⟩ = some (.int .u8 4) := hop.cell 0
  have q1 : W.cell? ⟨w.heap.size, 1, none⟩ = some (.int .u32 a) := hop.cell 1
  have q2 : W.cell? ⟨w.heap.size, 2, none⟩ = some (.int .u32 b) := hop.cell 2
  have q3 : W.cell? ⟨w.heap.size, 3, none⟩ = some (.int .u32 c) := hop.cell 3
  have q4 : W.cell? ⟨w.heap.size, 4, none⟩ = some (.int .u32 d) := hop.cell 4
  have q5 : W.cell? ⟨w.heap.size, 5, none⟩ = some (.int .u32 e) := hop.cell 5
  have HW0 : Hid (RR own W L R) := h.below hbe
  have HX0 : Hid (Ext own own (fun k => k ≤ 18) w W) := Ext.of_below hbe
  have HOP := hid_of hop
  have HBE := hid_of hbe
  have HLT : Hid (L.rg < w.heap.size) := h.rg.1.lt
  have HOK := hid_of hR
  have HRUN := hid_of hrun
  have HH := hid_of h
  clear h hbe hop c20 hR hrun
  go_enter Try.func36, Try.ntmps36
  go_wp2_with fail
  go_ret
  exact ⟨⟨_, rfl⟩, own, L, HW0.out, HX0.out, rfl⟩
set_option linter.unusedVariables false in
set_option maxRecDepth 100000 in
set_option maxHeartbeats 4000000 in
theorem st_6t (own : Nat → Nat) (L : LY) (R : RG) (hR : ROk R) (hrun : R.run = true) (a b c d e : Int) (ha : W32 a) (hb : W32 b) (hc : W32 c) (hd : W32 d) (he : W32 e) (k : Int) (hk : 6 ≤ k) (w : World) (h : RR own w L R) :
    Calls Try.prog 36 #[.pointer (some ⟨L.rg, 0, none⟩), .agg #[.int .u8 k, .int .u32 a, .int .u32 b, .int .u32 c, .int .u32 d, .int .u32 e]] w fun e' w' => (∃ z, e' = .returned (.bool z)) ∧ ∃ own' L', RR own' w' L' R ∧ Ext own own' (fun k => k ≤ 18) w w' ∧ L'.rg = L.rg := by
  have c20 : w.cell? ⟨L.rg, 20, none⟩ = some (.pointer (some ⟨L.pb, 0, none⟩)) := by
    have h9 : w.cell? ⟨L.rg, 20, none⟩ = some (ptr R.run L.pb) := h.rg.1.cell 20
    rw [hrun] at h9
    exact h9
  obtain ⟨W, hW⟩ : ∃ W, w.alloc (.cells #[.int .u8 k, .int .u32 a, .int .u32 b, .int .u32 c, .int .u32 d, .int .u32 e] 73) = W := ⟨_, rfl⟩
  have hbe : Below w.heap.size w W := by rw [← hW]; exact (Below.refl _ _).alloc (Nat.le_refl _) _
  have hop : Blk W w.heap.size #[.int .u8 k, .int .u32 a, .int .u32 b, .int .u32 c, .int .u32 d, .int .u32 e] 73 := by rw [← hW]; exact Blk.new _ _ _
  have c20W : W.cell? ⟨L.rg, 20, none⟩ = some (.pointer (some ⟨L.pb, 0, none⟩)) := by rw [← hW]; exact ca1 _ _ _ _ c20
  have q0 : W.cell? ⟨w.heap.size, 0, none⟩ = some (.int .u8 k) := hop.cell 0
  have q1 : W.cell? ⟨w.heap.size, 1, none⟩ = some (.int .u32 a) := hop.cell 1
  have q2 : W.cell? ⟨w.heap.size, 2, none⟩ = some (.int .u32 b) := hop.cell 2
  have q3 : W.cell? ⟨w.heap.size, 3, none⟩ = some (.int .u32 c) := hop.cell 3
  have q4 : W.cell? ⟨w.heap.size, 4, none⟩ = some (.int .u32 d) := hop.cell 4
  have q5 : W.cell? ⟨w.heap.size, 5, none⟩ = some (.int .u32 e) := hop.cell 5
  have HW0 : Hid (RR own W L R) := h.below hbe
  have HX0 : Hid (Ext own own (fun k => k ≤ 18) w W) := Ext.of_below hbe
  have HOP := hid_of hop
  have HBE := hid_of hbe
  have HLT : Hid (L.rg < w.heap.size) := h.rg.1.lt
  have HOK := hid_of hR
  have HRUN := hid_of hrun
  have HH := hid_of h
  clear h hbe hop c20 hR hrun
  have k0 : (k == 0) = false := by simp; omega
  have k1 : (k == 1) = false := by simp; omega
  have k2 : (k == 2) = false := by simp; omega
  have k3 : (k == 3) = false := by simp; omega
  have k4 : (k == 4) = false := by simp; omega
  have k5 : (k == 5) = false := by simp; omega
  go_enter Try.func36, Try.ntmps36
  go_wp2_with fail
  go_ret
  exact ⟨⟨_, rfl⟩, own, L, HW0.out, HX0.out, rfl⟩
set_option linter.unusedVariables false in
set_option maxRecDepth 100000 in
set_option maxHeartbeats 4000000 in
theorem st_6f (own : Nat → Nat) (L : LY) (R : RG) (hR : ROk R) (hrun : R.run = false) (a b c d e : Int) (ha : W32 a) (hb : W32 b) (hc : W32 c) (hd : W32 d) (he : W32 e) (k : Int) (hk : 6 ≤ k) (w : World) (h : RR own w L R) :
    Calls Try.prog 36 #[.pointer (some ⟨L.rg, 0, none⟩), .agg #[.int .u8 k, .int .u32 a, .int .u32 b, .int .u32 c, .int .u32 d, .int .u32 e]] w fun e' w' => (∃ z, e' = .returned (.bool z)) ∧ ∃ own' L', RR own' w' L' R ∧ Ext own own' (fun k => k ≤ 18) w w' ∧ L'.rg = L.rg := by
  have c20 : w.cell? ⟨L.rg, 20, none⟩ = some (.pointer none) := by
    have h9 : w.cell? ⟨L.rg, 20, none⟩ = some (ptr R.run L.pb) := h.rg.1.cell 20
    rw [hrun] at h9
    exact h9
  obtain ⟨W, hW⟩ : ∃ W, w.alloc (.cells #[.int .u8 k, .int .u32 a, .int .u32 b, .int .u32 c, .int .u32 d, .int .u32 e] 73) = W := ⟨_, rfl⟩
  have hbe : Below w.heap.size w W := by rw [← hW]; exact (Below.refl _ _).alloc (Nat.le_refl _) _
  have hop : Blk W w.heap.size #[.int .u8 k, .int .u32 a, .int .u32 b, .int .u32 c, .int .u32 d, .int .u32 e] 73 := by rw [← hW]; exact Blk.new _ _ _
  have c20W : W.cell? ⟨L.rg, 20, none⟩ = some (.pointer none) := by rw [← hW]; exact ca1 _ _ _ _ c20
  have q0 : W.cell? ⟨w.heap.size, 0, none⟩ = some (.int .u8 k) := hop.cell 0
  have q1 : W.cell? ⟨w.heap.size, 1, none⟩ = some (.int .u32 a) := hop.cell 1
  have q2 : W.cell? ⟨w.heap.size, 2, none⟩ = some (.int .u32 b) := hop.cell 2
  have q3 : W.cell? ⟨w.heap.size, 3, none⟩ = some (.int .u32 c) := hop.cell 3
  have q4 : W.cell? ⟨w.heap.size, 4, none⟩ = some (.int .u32 d) := hop.cell 4
  have q5 : W.cell? ⟨w.heap.size, 5, none⟩ = some (.int .u32 e) := hop.cell 5
  have HW0 : Hid (RR own W L R) := h.below hbe
  have HX0 : Hid (Ext own own (fun k => k ≤ 18) w W) := Ext.of_below hbe
  have HOP := hid_of hop
  have HBE := hid_of hbe
  have HLT : Hid (L.rg < w.heap.size) := h.rg.1.lt
  have HOK := hid_of hR
  have HRUN := hid_of hrun
  have HH := hid_of h
  clear h hbe hop c20 hR hrun
  have k0 : (k == 0) = false := by simp; omega
  have k1 : (k == 1) = false := by simp; omega
  have k2 : (k == 2) = false := by simp; omega
  have k3 : (k == 3) = false := by simp; omega
  have k4 : (k == 4) = false := by simp; omega
  have k5 : (k == 5) = false := by simp; omega
  go_enter Try.func36, Try.ntmps36
  go_wp2_with fail
  go_ret
  exact ⟨⟨_, rfl⟩, own, L, HW0.out, HX0.out, rfl⟩
set_option linter.unusedVariables false in
set_option maxRecDepth 100000 in
set_option maxHeartbeats 4000000 in
theorem st_5a (own : Nat → Nat) (L : LY) (R : RG) (hR : ROk R) (hrun : R.run = true) (a b c d e : Int) (ha : W32 a) (hb : W32 b) (hc : W32 c) (hd : W32 d) (he : W32 e)  (w : World) (h : RR own w L R) :
    Calls Try.prog 36 #[.pointer (some ⟨L.rg, 0, none⟩), .agg #[.int .u8 5, .int .u32 a, .int .u32 b, .int .u32 c, .int .u32 d, .int .u32 e]] w fun e' w' => (∃ z, e' = .returned (.bool z)) ∧ ∃ own' L', RR own' w' L' R ∧ Ext own own' (fun k => k ≤ 18) w w' ∧ L'.rg = L.rg := by
  have c20 : w.cell? ⟨L.rg, 20, none⟩ = some (.pointer (some ⟨L.pb, 0, none⟩)) := by
    have h9 : w.cell? ⟨L.rg, 20, none⟩ = some (ptr R.run L.pb) := h.rg.1.cell 20
    rw [hrun] at h9
    exact h9
  obtain ⟨W, hW⟩ : ∃ W, w.alloc (.cells #[.int .u8 5, .int .u32 a, .int .u32 b, .int .u32 c, .int .u32 d, .int .u32 e] 73) = W := ⟨_, rfl⟩
  have hbe : Below w.heap.size w W := by rw [← hW]; exact (Below.refl _ _).alloc (Nat.le_refl _) _
  have hop : Blk W w.heap.size #[.int .u8 5, .int .u32 a, .int .u32 b, .int .u32 c, .int .u32 d, .int .u32 e] 73 := by rw [← hW]; exact Blk.new _ _ _
  have c20W : W.cell? ⟨L.rg, 20, none⟩ = some (.pointer (some ⟨L.pb, 0, none⟩)) := by rw [← hW]; exact ca1 _ _ _ _ c20
  have q0 : W.cell? ⟨w.heap.size, 0, none⟩ = some (.int .u8 5) := hop.cell 0
  have q1 : W.cell? ⟨w.heap.size, 1, none⟩ = some (.int .u32 a) := hop.cell 1
  have q2 : W.cell? ⟨w.heap.size, 2, none⟩ = some (.int .u32 b) := hop.cell 2
  have q3 : W.cell? ⟨w.heap.size, 3, none⟩ = some (.int .u32 c) := hop.cell 3
  have q4 : W.cell? ⟨w.heap.size, 4, none⟩ = some (.int .u32 d) := hop.cell 4
  have q5 : W.cell? ⟨w.heap.size, 5, none⟩ = some (.int .u32 e) := hop.cell 5
  have HW0 : Hid (RR own W L R) := h.below hbe
  have HX0 : Hid (Ext own own (fun k => k ≤ 18) w W) := Ext.of_below hbe
  have HOP := hid_of hop
  have HBE := hid_of hbe
  have HLT : Hid (L.rg < w.heap.size) := h.rg.1.lt
  have HOK := hid_of hR
  have HRUN := hid_of hrun
  have HH := hid_of h
  clear h hbe hop c20 hR hrun
  go_enter Try.func36, Try.ntmps36
  go_wp2_with fail
  go_ret
  exact ⟨⟨_, rfl⟩, own, L, HW0.out, HX0.out, rfl⟩
set_option linter.unusedVariables false in
set_option maxRecDepth 100000 in
set_option maxHeartbeats 4000000 in
theorem st_5b (own : Nat → Nat) (L : LY) (R : RG) (hR : ROk R) (hrun : R.run = false) (a b c d e : Int) (ha : W32 a) (hb : W32 b) (hc : W32 c) (hd : W32 d) (he : W32 e) (hm : mapF a = false) (w : World) (h : RR own w L R) :
    Calls Try.prog 36 #[.pointer (some ⟨L.rg, 0, none⟩), .agg #[.int .u8 5, .int .u32 a, .int .u32 b, .int .u32 c, .int .u32 d, .int .u32 e]] w fun e' w' => (∃ z, e' = .returned (.bool z)) ∧ ∃ own' L', RR own' w' L' R ∧ Ext own own' (fun k => k ≤ 18) w w' ∧ L'.rg = L.rg := by
  have c20 : w.cell? ⟨L.rg, 20, none⟩ = some (.pointer none) := by
    have h9 : w.cell? ⟨L.rg, 20, none⟩ = some (ptr R.run L.pb) := h.rg.1.cell 20
    rw [hrun] at h9
    exact h9
  obtain ⟨W, hW⟩ : ∃ W, w.alloc (.cells #[.int .u8 5, .int .u32 a, .int .u32 b, .int .u32 c, .int .u32 d, .int .u32 e] 73) = W := ⟨_, rfl⟩
  have hbe : Below w.heap.size w W := by rw [← hW]; exact (Below.refl _ _).alloc (Nat.le_refl _) _
  have hop : Blk W w.heap.size #[.int .u8 5, .int .u32 a, .int .u32 b, .int .u32 c, .int .u32 d, .int .u32 e] 73 := by rw [← hW]; exact Blk.new _ _ _
  have c20W : W.cell? ⟨L.rg, 20, none⟩ = some (.pointer none) := by rw [← hW]; exact ca1 _ _ _ _ c20
  have q0 : W.cell? ⟨w.heap.size, 0, none⟩ = some (.int .u8 5) := hop.cell 0
  have q1 : W.cell? ⟨w.heap.size, 1, none⟩ = some (.int .u32 a) := hop.cell 1
  have q2 : W.cell? ⟨w.heap.size, 2, none⟩ = some (.int .u32 b) := hop.cell 2
  have q3 : W.cell? ⟨w.heap.size, 3, none⟩ = some (.int .u32 c) := hop.cell 3
  have q4 : W.cell? ⟨w.heap.size, 4, none⟩ = some (.int .u32 d) := hop.cell 4
  have q5 : W.cell? ⟨w.heap.size, 5, none⟩ = some (.int .u32 e) := hop.cell 5
  have HW0 : Hid (RR own W L R) := h.below hbe
  have HX0 : Hid (Ext own own (fun k => k ≤ 18) w W) := Ext.of_below hbe
  have HOP := hid_of hop
  have HBE := hid_of hbe
  have HLT : Hid (L.rg < w.heap.size) := h.rg.1.lt
  have HOK := hid_of hR
  have HRUN := hid_of hrun
  have HH := hid_of h
  clear h hbe hop c20 hR hrun
  have HM := hid_of (mapped_any a ha W)
  rw [hm] at HM
  go_enter Try.func36, Try.ntmps36
  go_wp2_with fail
  refine HM.out.mono ?_
  rintro e' w1 ⟨rfl, hw1⟩
  obtain rfl := hw1.symm
  clear HM
  go_wp2_with fail
  go_ret
  exact ⟨⟨_, rfl⟩, own, L, HW0.out, HX0.out, rfl⟩
set_option linter.unusedVariables false in
set_option maxRecDepth 100000 in
set_option maxHeartbeats 4000000 in
theorem st_5c (own : Nat → Nat) (L : LY) (R : RG) (hR : ROk R) (hrun : R.run = false) (a b c d e : Int) (ha : W32 a) (hb : W32 b) (hc : W32 c) (hd : W32 d) (he : W32 e) (hm : mapF a = true) (hm2 : mapF ((a + 12) % 4294967296) = false) (w : World) (h : RR own w L R) :
    Calls Try.prog 36 #[.pointer (some ⟨L.rg, 0, none⟩), .agg #[.int .u8 5, .int .u32 a, .int .u32 b, .int .u32 c, .int .u32 d, .int .u32 e]] w fun e' w' => (∃ z, e' = .returned (.bool z)) ∧ ∃ own' L', RR own' w' L' R ∧ Ext own own' (fun k => k ≤ 18) w w' ∧ L'.rg = L.rg := by
  have c20 : w.cell? ⟨L.rg, 20, none⟩ = some (.pointer none) := by
    have h9 : w.cell? ⟨L.rg, 20, none⟩ = some (ptr R.run L.pb) := h.rg.1.cell 20
    rw [hrun] at h9
    exact h9
  obtain ⟨W, hW⟩ : ∃ W, w.alloc (.cells #[.int .u8 5, .int .u32 a, .int .u32 b, .int .u32 c, .int .u32 d, .int .u32 e] 73) = W := ⟨_, rfl⟩
  have hbe : Below w.heap.size w W := by rw [← hW]; exact (Below.refl _ _).alloc (Nat.le_refl _) _
  have hop : Blk W w.heap.size #[.int .u8 5, .int .u32 a, .int .u32 b, .int .u32 c, .int .u32 d, .int .u32 e] 73 := by rw [← hW]; exact Blk.new _ _ _
  have c20W : W.cell? ⟨L.rg, 20, none⟩ = some (.pointer none) := by rw [← hW]; exact ca1 _ _ _ _ c20
  have q0 : W.cell? ⟨w.heap.size, 0, none⟩ = some (.int .u8 5) := hop.cell 0
  have q1 : W.cell? ⟨w.heap.size, 1, none⟩ = some (.int .u32 a) := hop.cell 1
  have q2 : W.cell? ⟨w.heap.size, 2, none⟩ = some (.int .u32 b) := hop.cell 2
  have q3 : W.cell? ⟨w.heap.size, 3, none⟩ = some (.int .u32 c) := hop.cell 3
  have q4 : W.cell? ⟨w.heap.size, 4, none⟩ = some (.int .u32 d) := hop.cell 4
  have q5 : W.cell? ⟨w.heap.size, 5, none⟩ = some (.int .u32 e) := hop.cell 5
  have HW0 : Hid (RR own W L R) := h.below hbe
  have HX0 : Hid (Ext own own (fun k => k ≤ 18) w W) := Ext.of_below hbe
  have HOP := hid_of hop
  have HBE := hid_of hbe
  have HLT : Hid (L.rg < w.heap.size) := h.rg.1.lt
  have HOK := hid_of hR
  have HRUN := hid_of hrun
  have HH := hid_of h
  clear h hbe hop c20 hR hrun
  have HM := hid_of (mapped_any a ha W)
  rw [hm] at HM
  have HM2 := hid_of (mapped_any ((a + 12) % 4294967296) (W32.emod _) W)
  rw [hm2] at HM2
  clear hm hm2
  go_enter Try.func36, Try.ntmps36
  go_wp2_with fail
  refine HM.out.mono ?_
  rintro e' w1 ⟨rfl, hw1⟩
  obtain rfl := hw1.symm
  clear HM
  go_wp2_with fail
  refine HM2.out.mono ?_
  rintro e' w1 ⟨rfl, hw1⟩
  obtain rfl := hw1.symm
  clear HM2
  go_wp2_with fail
  go_ret
  exact ⟨⟨_, rfl⟩, own, L, HW0.out, HX0.out, rfl⟩
end Go.Proofs.Qxb6500749a
