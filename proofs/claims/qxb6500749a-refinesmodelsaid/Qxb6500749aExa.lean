import Derived.Test.Qxb6500749aEx1
import Derived.Test.Qxb6500749aEx2
import Derived.Test.Qxb6500749aEx3
import Derived.Test.Qxb6500749aEx4
import Derived.Test.Qxb6500749aEx5
namespace Go.Proofs.Qxb6500749a
open Go.RowKit
theorem exec_any (pb o bb cb base : Nat) (hb : base ≤ 18) (fv : Value) (a : Option Addr) (n cap : Nat) (prog : List Int) (hn : prog.length = n) (hn6 : n ≤ 64) (hpr : ∀ x ∈ prog, W32 x) (B : BD) (hB : B.Ok) (w : World) (hc : CR w pb o bb base (.slice a n cap)) (h : BR w bb cb fv B) (hS : Sl w (.slice a n cap) 30 1 n (prow prog)) (hpc : pb ≠ cb) :
    Calls Try.prog 77 #[.pointer (some ⟨pb, o, none⟩)] w fun e w' => e = .returned (.agg (buV (execF prog base B).2)) ∧ Tn w w' cb (execF prog base B).1.c := by
  have h0 := (decF_ok _ (fetF_w32 hpr _ (hB.get (base + 16)))).2.2.1
  by_cases e0 : (decF (fetF prog (B.get (base + 16)))).op = 0
  · exact ex_0 pb o bb cb base hb fv a n cap prog hn hn6 hpr B hB w hc h hS hpc e0
  by_cases e1 : (decF (fetF prog (B.get (base + 16)))).op = 1
  · exact ex_1 pb o bb cb base hb fv a n cap prog hn hn6 hpr B hB w hc h hS hpc e1
  by_cases e2 : (decF (fetF prog (B.get (base + 16)))).op = 2
  · exact ex_2 pb o bb cb base hb fv a n cap prog hn hn6 hpr B hB w hc h hS hpc e2
  by_cases e3 : (decF (fetF prog (B.get (base + 16)))).op = 3
  · exact ex_3 pb o bb cb base hb fv a n cap prog hn hn6 hpr B hB w hc h hS hpc e3
  by_cases e4 : (decF (fetF prog (B.get (base + 16)))).op = 4
  · exact ex_4 pb o bb cb base hb fv a n cap prog hn hn6 hpr B hB w hc h hS hpc e4
  by_cases e5 : (decF (fetF prog (B.get (base + 16)))).op = 5
  · exact ex_5 pb o bb cb base hb fv a n cap prog hn hn6 hpr B hB w hc h hS hpc e5
  by_cases e6 : (decF (fetF prog (B.get (base + 16)))).op = 6
  · exact ex_6 pb o bb cb base hb fv a n cap prog hn hn6 hpr B hB w hc h hS hpc e6
  by_cases e7 : (decF (fetF prog (B.get (base + 16)))).op = 7
  · exact ex_7 pb o bb cb base hb fv a n cap prog hn hn6 hpr B hB w hc h hS hpc e7
  by_cases e8 : (decF (fetF prog (B.get (base + 16)))).op = 8
  · exact ex_8 pb o bb cb base hb fv a n cap prog hn hn6 hpr B hB w hc h hS hpc e8
  by_cases e9 : (decF (fetF prog (B.get (base + 16)))).op = 9
  · exact ex_9 pb o bb cb base hb fv a n cap prog hn hn6 hpr B hB w hc h hS hpc e9
  by_cases e10 : (decF (fetF prog (B.get (base + 16)))).op = 10
  · exact ex_10 pb o bb cb base hb fv a n cap prog hn hn6 hpr B hB w hc h hS hpc e10
  by_cases e11 : (decF (fetF prog (B.get (base + 16)))).op = 11
  · exact ex_11 pb o bb cb base hb fv a n cap prog hn hn6 hpr B hB w hc h hS hpc e11
  by_cases e12 : (decF (fetF prog (B.get (base + 16)))).op = 12
  · exact ex_12 pb o bb cb base hb fv a n cap prog hn hn6 hpr B hB w hc h hS hpc e12
  by_cases e13 : (decF (fetF prog (B.get (base + 16)))).op = 13
  · exact ex_13 pb o bb cb base hb fv a n cap prog hn hn6 hpr B hB w hc h hS hpc e13
  by_cases e14 : (decF (fetF prog (B.get (base + 16)))).op = 14
  · exact ex_14 pb o bb cb base hb fv a n cap prog hn hn6 hpr B hB w hc h hS hpc e14
  by_cases e15 : (decF (fetF prog (B.get (base + 16)))).op = 15
  · exact ex_15 pb o bb cb base hb fv a n cap prog hn hn6 hpr B hB w hc h hS hpc e15
  by_cases e16 : (decF (fetF prog (B.get (base + 16)))).op = 16
  · exact ex_16 pb o bb cb base hb fv a n cap prog hn hn6 hpr B hB w hc h hS hpc e16
  by_cases e17 : (decF (fetF prog (B.get (base + 16)))).op = 17
  · exact ex_17 pb o bb cb base hb fv a n cap prog hn hn6 hpr B hB w hc h hS hpc e17
  by_cases e18 : (decF (fetF prog (B.get (base + 16)))).op = 18
  · exact ex_18 pb o bb cb base hb fv a n cap prog hn hn6 hpr B hB w hc h hS hpc e18
  by_cases e19 : (decF (fetF prog (B.get (base + 16)))).op = 19
  · cases htk : takF 19 (B.get (base + (decF (fetF prog (B.get (base + 16)))).ra)) (B.get (base + (decF (fetF prog (B.get (base + 16)))).rb))
    · exact ex_19f pb o bb cb base hb fv a n cap prog hn hn6 hpr B hB w hc h hS hpc htk e19
    · exact ex_19t pb o bb cb base hb fv a n cap prog hn hn6 hpr B hB w hc h hS hpc htk e19
  by_cases e20 : (decF (fetF prog (B.get (base + 16)))).op = 20
  · cases htk : takF 20 (B.get (base + (decF (fetF prog (B.get (base + 16)))).ra)) (B.get (base + (decF (fetF prog (B.get (base + 16)))).rb))
    · exact ex_20f pb o bb cb base hb fv a n cap prog hn hn6 hpr B hB w hc h hS hpc htk e20
    · exact ex_20t pb o bb cb base hb fv a n cap prog hn hn6 hpr B hB w hc h hS hpc htk e20
  by_cases e21 : (decF (fetF prog (B.get (base + 16)))).op = 21
  · cases htk : takF 21 (B.get (base + (decF (fetF prog (B.get (base + 16)))).ra)) (B.get (base + (decF (fetF prog (B.get (base + 16)))).rb))
    · exact ex_21f pb o bb cb base hb fv a n cap prog hn hn6 hpr B hB w hc h hS hpc htk e21
    · exact ex_21t pb o bb cb base hb fv a n cap prog hn hn6 hpr B hB w hc h hS hpc htk e21
  by_cases e22 : (decF (fetF prog (B.get (base + 16)))).op = 22
  · exact ex_22 pb o bb cb base hb fv a n cap prog hn hn6 hpr B hB w hc h hS hpc e22
  by_cases e23 : (decF (fetF prog (B.get (base + 16)))).op = 23
  · exact ex_23 pb o bb cb base hb fv a n cap prog hn hn6 hpr B hB w hc h hS hpc e23
  exact ex_d pb o bb cb base hb fv a n cap prog hn hn6 hpr B hB w hc h hS hpc (by omega)
end Go.Proofs.Qxb6500749a
