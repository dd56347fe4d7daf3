/-
  NARROWER THAN 'FOR EVERY INPUT', by the rows' own cells (each row's printed sentence says how): RefinesModel: laid · DecodeAgreesWithIntervals: laid · OrderBoundsAndInterleaving: laid · RetriesAreBoundedAndNoWriteActsTwice: laid · IsolationHolds: laid · ArbitrationIsPickedOrRoundRobin: laid · EveryAcceptedRequestIsAnsweredOnce: laid · FaultFreeRunsMatchSequentialMemory: laid.
  DERIVED. THE GIVEN ROWS OF THIS SEAT. 8 by the template 'for every input the law returns true; each argument reads behind the call as it read before'; 0 by the template 'total and deterministic' (their statements: Qxb6500750aDoorTotals.lean).
  GIVEN WITH THE SEED: the statements are not yours to turn. If you find one false, say at which input.
  Laid BY PROGRAM, IN A SANDBOX (cutbox-rows.mjs): the forced cells as the released guide's own fill.sh prints them over the translation 1b6e6b1b6d3ef332… (all of the seat's roots in one cut). By AI agents, Wed Nov 11 2026. No macro, syntax, notation, axiom, sorry.
-/
import Derived.Test.Qxb6500750aDoorChecked
import GoSem.Claim
import GoSem.ClaimJoined
import GoSem.ClaimMapViews
import Derived.JoinedTies
import Derived.KernelRfl
namespace Go.Proofs.Qxb6500750aDoor
/- THE CELL 'sum', in the pinned program and in every row, IS THE sha256 OF THE DUMP (.gsa) THAT Qxb6500750aDoorProg.lean LOADS. Nothing in Lean hashes anything: it is a label: what it is worth is what the hold of that sum in a sandbox is worth. -/
noncomputable def Tryd.pinned : Pinned := { name := "qxb6500750adoor", sum := "1b6e6b1b6d3ef33294753f96f361d65492d3912c74a5c434f00a48f5d9a9c879", checked := Tryd.checked }
namespace Rows
def none {H : Type} : Left H := { results := [], args := [] }

/- WHAT THE LISTED PACKAGE-LEVEL VARIABLES READ AS WHEN THE CALL BEGINS. Each datum BY PROGRAM (the guide's laid-datum.mjs) off the statement by which the dump's own 'gosem.cut.vars' lays the variable. In a bare row this is a premise. The card (Qxb6500750aDoorCards.lean) ties it to the program's text. -/
def laid_e2e_api_Map {H : Type} : DataW H := .agg [.agg [.lit (.int .u32 0), .lit (.int .u32 4095)], .agg [.lit (.int .u32 1073741824), .lit (.int .u32 1073742079)], .agg [.lit (.int .u32 1073742080), .lit (.int .u32 1073742335)], .agg [.lit (.int .u32 1073745920), .lit (.int .u32 1073745983)], .agg [.lit (.int .u32 1073750016), .lit (.int .u32 1073750047)], .agg [.lit (.int .u32 4294967040), .lit (.int .u32 4294967295)]]
def laid_math_bits_deBruijn32tab {H : Type} : DataW H := .agg [.lit (.int .u8 0), .lit (.int .u8 1), .lit (.int .u8 28), .lit (.int .u8 2), .lit (.int .u8 29), .lit (.int .u8 14), .lit (.int .u8 24), .lit (.int .u8 3), .lit (.int .u8 30), .lit (.int .u8 22), .lit (.int .u8 20), .lit (.int .u8 15), .lit (.int .u8 25), .lit (.int .u8 17), .lit (.int .u8 4), .lit (.int .u8 8), .lit (.int .u8 31), .lit (.int .u8 27), .lit (.int .u8 13), .lit (.int .u8 23), .lit (.int .u8 21), .lit (.int .u8 19), .lit (.int .u8 16), .lit (.int .u8 7), .lit (.int .u8 26), .lit (.int .u8 12), .lit (.int .u8 18), .lit (.int .u8 6), .lit (.int .u8 11), .lit (.int .u8 5), .lit (.int .u8 10), .lit (.int .u8 9)]
def laid_math_bits_deBruijn64tab {H : Type} : DataW H := .agg [.lit (.int .u8 0), .lit (.int .u8 1), .lit (.int .u8 56), .lit (.int .u8 2), .lit (.int .u8 57), .lit (.int .u8 49), .lit (.int .u8 28), .lit (.int .u8 3), .lit (.int .u8 61), .lit (.int .u8 58), .lit (.int .u8 42), .lit (.int .u8 50), .lit (.int .u8 38), .lit (.int .u8 29), .lit (.int .u8 17), .lit (.int .u8 4), .lit (.int .u8 62), .lit (.int .u8 47), .lit (.int .u8 59), .lit (.int .u8 36), .lit (.int .u8 45), .lit (.int .u8 43), .lit (.int .u8 51), .lit (.int .u8 22), .lit (.int .u8 53), .lit (.int .u8 39), .lit (.int .u8 33), .lit (.int .u8 30), .lit (.int .u8 24), .lit (.int .u8 18), .lit (.int .u8 12), .lit (.int .u8 5), .lit (.int .u8 63), .lit (.int .u8 55), .lit (.int .u8 48), .lit (.int .u8 27), .lit (.int .u8 60), .lit (.int .u8 41), .lit (.int .u8 37), .lit (.int .u8 16), .lit (.int .u8 46), .lit (.int .u8 35), .lit (.int .u8 44), .lit (.int .u8 21), .lit (.int .u8 52), .lit (.int .u8 32), .lit (.int .u8 23), .lit (.int .u8 11), .lit (.int .u8 54), .lit (.int .u8 26), .lit (.int .u8 40), .lit (.int .u8 15), .lit (.int .u8 34), .lit (.int .u8 20), .lit (.int .u8 31), .lit (.int .u8 10), .lit (.int .u8 25), .lit (.int .u8 14), .lit (.int .u8 19), .lit (.int .u8 9), .lit (.int .u8 13), .lit (.int .u8 8), .lit (.int .u8 7), .lit (.int .u8 6)]
def laid_e2e_xbar_windows {H : Type} : DataW H := .agg [.agg [.lit (.int .u32 4294963200), .lit (.int .u32 0)], .agg [.lit (.int .u32 4294967040), .lit (.int .u32 1073741824)], .agg [.lit (.int .u32 4294967040), .lit (.int .u32 1073742080)], .agg [.lit (.int .u32 4294967232), .lit (.int .u32 1073745920)], .agg [.lit (.int .u32 4294967264), .lit (.int .u32 1073750016)], .agg [.lit (.int .u32 4294967040), .lit (.int .u32 4294967040)]]

/-- 'xbarlaw.RefinesModel': WHATEVER THE INPUT: true; the input reads as it did. -/
def refinesModelSpec : ChangeSpec := { name := "refinesModel", fn := fun _ => fun
  | [d] => { results := [.lit (.bool true)], args := [d] }
  | _ => none }
def refinesModelRow : OpenClaim := { program := "qxb6500750adoor", sum := "1b6e6b1b6d3ef33294753f96f361d65492d3912c74a5c434f00a48f5d9a9c879", func := "e2e/xbarlaw.RefinesModel", spec := "refinesModel", named := ["e2e/xbar.windows", "math/bits.deBruijn32tab", "math/bits.deBruijn64tab", "e2e/api.Map"], plainKeys := false, apart := false, laid := [("e2e/api.Map", laid_e2e_api_Map), ("math/bits.deBruijn32tab", laid_math_bits_deBruijn32tab), ("math/bits.deBruijn64tab", laid_math_bits_deBruijn64tab), ("e2e/xbar.windows", laid_e2e_xbar_windows)] }
def RefinesModelSaid : Prop := refinesModelRow.holds Tryd.pinned (OpenSpec.ofChange refinesModelSpec)

/-- ITS FALSE NEIGHBOUR: 'it returns false'. Refute it at one input. -/
def refinesModelWrong : ChangeSpec := { name := "refinesModel", fn := fun _ => fun
  | [d] => { results := [.lit (.bool false)], args := [d] }
  | _ => none }
def RefinesModelWrongFalsely : Prop := refinesModelRow.holds Tryd.pinned (OpenSpec.ofChange refinesModelWrong)

/-- 'xbarlaw.DecodeAgreesWithIntervals': WHATEVER THE INPUT: true; the input reads as it did. -/
def decodeAgreesWithIntervalsSpec : ChangeSpec := { name := "decodeAgreesWithIntervals", fn := fun _ => fun
  | [d] => { results := [.lit (.bool true)], args := [d] }
  | _ => none }
def decodeAgreesWithIntervalsRow : OpenClaim := { program := "qxb6500750adoor", sum := "1b6e6b1b6d3ef33294753f96f361d65492d3912c74a5c434f00a48f5d9a9c879", func := "e2e/xbarlaw.DecodeAgreesWithIntervals", spec := "decodeAgreesWithIntervals", named := ["e2e/api.Map", "e2e/xbar.windows"], plainKeys := false, apart := false, laid := [("e2e/api.Map", laid_e2e_api_Map), ("e2e/xbar.windows", laid_e2e_xbar_windows)] }
def DecodeAgreesWithIntervalsSaid : Prop := decodeAgreesWithIntervalsRow.holds Tryd.pinned (OpenSpec.ofChange decodeAgreesWithIntervalsSpec)

/-- ITS FALSE NEIGHBOUR: 'it returns false'. Refute it at one input. -/
def decodeAgreesWithIntervalsWrong : ChangeSpec := { name := "decodeAgreesWithIntervals", fn := fun _ => fun
  | [d] => { results := [.lit (.bool false)], args := [d] }
  | _ => none }
def DecodeAgreesWithIntervalsWrongFalsely : Prop := decodeAgreesWithIntervalsRow.holds Tryd.pinned (OpenSpec.ofChange decodeAgreesWithIntervalsWrong)

/-- 'xbarlaw.OrderBoundsAndInterleaving': WHATEVER THE INPUT: true; the input reads as it did. -/
def orderBoundsAndInterleavingSpec : ChangeSpec := { name := "orderBoundsAndInterleaving", fn := fun _ => fun
  | [d] => { results := [.lit (.bool true)], args := [d] }
  | _ => none }
def orderBoundsAndInterleavingRow : OpenClaim := { program := "qxb6500750adoor", sum := "1b6e6b1b6d3ef33294753f96f361d65492d3912c74a5c434f00a48f5d9a9c879", func := "e2e/xbarlaw.OrderBoundsAndInterleaving", spec := "orderBoundsAndInterleaving", named := ["e2e/api.Map", "e2e/xbar.windows", "math/bits.deBruijn32tab", "math/bits.deBruijn64tab"], plainKeys := false, apart := false, laid := [("e2e/api.Map", laid_e2e_api_Map), ("math/bits.deBruijn32tab", laid_math_bits_deBruijn32tab), ("math/bits.deBruijn64tab", laid_math_bits_deBruijn64tab), ("e2e/xbar.windows", laid_e2e_xbar_windows)] }
def OrderBoundsAndInterleavingSaid : Prop := orderBoundsAndInterleavingRow.holds Tryd.pinned (OpenSpec.ofChange orderBoundsAndInterleavingSpec)

/-- ITS FALSE NEIGHBOUR: 'it returns false'. Refute it at one input. -/
def orderBoundsAndInterleavingWrong : ChangeSpec := { name := "orderBoundsAndInterleaving", fn := fun _ => fun
  | [d] => { results := [.lit (.bool false)], args := [d] }
  | _ => none }
def OrderBoundsAndInterleavingWrongFalsely : Prop := orderBoundsAndInterleavingRow.holds Tryd.pinned (OpenSpec.ofChange orderBoundsAndInterleavingWrong)

/-- 'xbarlaw.RetriesAreBoundedAndNoWriteActsTwice': WHATEVER THE INPUT: true; the input reads as it did. -/
def retriesAreBoundedAndNoWriteActsTwiceSpec : ChangeSpec := { name := "retriesAreBoundedAndNoWriteActsTwice", fn := fun _ => fun
  | [d] => { results := [.lit (.bool true)], args := [d] }
  | _ => none }
def retriesAreBoundedAndNoWriteActsTwiceRow : OpenClaim := { program := "qxb6500750adoor", sum := "1b6e6b1b6d3ef33294753f96f361d65492d3912c74a5c434f00a48f5d9a9c879", func := "e2e/xbarlaw.RetriesAreBoundedAndNoWriteActsTwice", spec := "retriesAreBoundedAndNoWriteActsTwice", named := ["e2e/api.Map", "e2e/xbar.windows", "math/bits.deBruijn32tab", "math/bits.deBruijn64tab"], plainKeys := false, apart := false, laid := [("e2e/api.Map", laid_e2e_api_Map), ("math/bits.deBruijn32tab", laid_math_bits_deBruijn32tab), ("math/bits.deBruijn64tab", laid_math_bits_deBruijn64tab), ("e2e/xbar.windows", laid_e2e_xbar_windows)] }
def RetriesAreBoundedAndNoWriteActsTwiceSaid : Prop := retriesAreBoundedAndNoWriteActsTwiceRow.holds Tryd.pinned (OpenSpec.ofChange retriesAreBoundedAndNoWriteActsTwiceSpec)

/-- ITS FALSE NEIGHBOUR: 'it returns false'. Refute it at one input. -/
def retriesAreBoundedAndNoWriteActsTwiceWrong : ChangeSpec := { name := "retriesAreBoundedAndNoWriteActsTwice", fn := fun _ => fun
  | [d] => { results := [.lit (.bool false)], args := [d] }
  | _ => none }
def RetriesAreBoundedAndNoWriteActsTwiceWrongFalsely : Prop := retriesAreBoundedAndNoWriteActsTwiceRow.holds Tryd.pinned (OpenSpec.ofChange retriesAreBoundedAndNoWriteActsTwiceWrong)

/-- 'xbarlaw.IsolationHolds': WHATEVER THE INPUT: true; the input reads as it did. -/
def isolationHoldsSpec : ChangeSpec := { name := "isolationHolds", fn := fun _ => fun
  | [d] => { results := [.lit (.bool true)], args := [d] }
  | _ => none }
def isolationHoldsRow : OpenClaim := { program := "qxb6500750adoor", sum := "1b6e6b1b6d3ef33294753f96f361d65492d3912c74a5c434f00a48f5d9a9c879", func := "e2e/xbarlaw.IsolationHolds", spec := "isolationHolds", named := ["e2e/api.Map", "e2e/xbar.windows", "math/bits.deBruijn32tab", "math/bits.deBruijn64tab"], plainKeys := false, apart := false, laid := [("e2e/api.Map", laid_e2e_api_Map), ("math/bits.deBruijn32tab", laid_math_bits_deBruijn32tab), ("math/bits.deBruijn64tab", laid_math_bits_deBruijn64tab), ("e2e/xbar.windows", laid_e2e_xbar_windows)] }
def IsolationHoldsSaid : Prop := isolationHoldsRow.holds Tryd.pinned (OpenSpec.ofChange isolationHoldsSpec)

/-- ITS FALSE NEIGHBOUR: 'it returns false'. Refute it at one input. -/
def isolationHoldsWrong : ChangeSpec := { name := "isolationHolds", fn := fun _ => fun
  | [d] => { results := [.lit (.bool false)], args := [d] }
  | _ => none }
def IsolationHoldsWrongFalsely : Prop := isolationHoldsRow.holds Tryd.pinned (OpenSpec.ofChange isolationHoldsWrong)

/-- 'xbarlaw.ArbitrationIsPickedOrRoundRobin': WHATEVER THE INPUT: true; the input reads as it did. -/
def arbitrationIsPickedOrRoundRobinSpec : ChangeSpec := { name := "arbitrationIsPickedOrRoundRobin", fn := fun _ => fun
  | [d] => { results := [.lit (.bool true)], args := [d] }
  | _ => none }
def arbitrationIsPickedOrRoundRobinRow : OpenClaim := { program := "qxb6500750adoor", sum := "1b6e6b1b6d3ef33294753f96f361d65492d3912c74a5c434f00a48f5d9a9c879", func := "e2e/xbarlaw.ArbitrationIsPickedOrRoundRobin", spec := "arbitrationIsPickedOrRoundRobin", named := ["e2e/api.Map", "e2e/xbar.windows", "math/bits.deBruijn32tab", "math/bits.deBruijn64tab"], plainKeys := false, apart := false, laid := [("e2e/api.Map", laid_e2e_api_Map), ("math/bits.deBruijn32tab", laid_math_bits_deBruijn32tab), ("math/bits.deBruijn64tab", laid_math_bits_deBruijn64tab), ("e2e/xbar.windows", laid_e2e_xbar_windows)] }
def ArbitrationIsPickedOrRoundRobinSaid : Prop := arbitrationIsPickedOrRoundRobinRow.holds Tryd.pinned (OpenSpec.ofChange arbitrationIsPickedOrRoundRobinSpec)

/-- ITS FALSE NEIGHBOUR: 'it returns false'. Refute it at one input. -/
def arbitrationIsPickedOrRoundRobinWrong : ChangeSpec := { name := "arbitrationIsPickedOrRoundRobin", fn := fun _ => fun
  | [d] => { results := [.lit (.bool false)], args := [d] }
  | _ => none }
def ArbitrationIsPickedOrRoundRobinWrongFalsely : Prop := arbitrationIsPickedOrRoundRobinRow.holds Tryd.pinned (OpenSpec.ofChange arbitrationIsPickedOrRoundRobinWrong)

/-- 'xbarlaw.EveryAcceptedRequestIsAnsweredOnce': WHATEVER THE INPUT: true; the input reads as it did. -/
def everyAcceptedRequestIsAnsweredOnceSpec : ChangeSpec := { name := "everyAcceptedRequestIsAnsweredOnce", fn := fun _ => fun
  | [d] => { results := [.lit (.bool true)], args := [d] }
  | _ => none }
def everyAcceptedRequestIsAnsweredOnceRow : OpenClaim := { program := "qxb6500750adoor", sum := "1b6e6b1b6d3ef33294753f96f361d65492d3912c74a5c434f00a48f5d9a9c879", func := "e2e/xbarlaw.EveryAcceptedRequestIsAnsweredOnce", spec := "everyAcceptedRequestIsAnsweredOnce", named := ["e2e/api.Map", "e2e/xbar.windows", "math/bits.deBruijn32tab", "math/bits.deBruijn64tab"], plainKeys := false, apart := false, laid := [("e2e/api.Map", laid_e2e_api_Map), ("math/bits.deBruijn32tab", laid_math_bits_deBruijn32tab), ("math/bits.deBruijn64tab", laid_math_bits_deBruijn64tab), ("e2e/xbar.windows", laid_e2e_xbar_windows)] }
def EveryAcceptedRequestIsAnsweredOnceSaid : Prop := everyAcceptedRequestIsAnsweredOnceRow.holds Tryd.pinned (OpenSpec.ofChange everyAcceptedRequestIsAnsweredOnceSpec)

/-- ITS FALSE NEIGHBOUR: 'it returns false'. Refute it at one input. -/
def everyAcceptedRequestIsAnsweredOnceWrong : ChangeSpec := { name := "everyAcceptedRequestIsAnsweredOnce", fn := fun _ => fun
  | [d] => { results := [.lit (.bool false)], args := [d] }
  | _ => none }
def EveryAcceptedRequestIsAnsweredOnceWrongFalsely : Prop := everyAcceptedRequestIsAnsweredOnceRow.holds Tryd.pinned (OpenSpec.ofChange everyAcceptedRequestIsAnsweredOnceWrong)

/-- 'xbarlaw.FaultFreeRunsMatchSequentialMemory': WHATEVER THE INPUT: true; the input reads as it did. -/
def faultFreeRunsMatchSequentialMemorySpec : ChangeSpec := { name := "faultFreeRunsMatchSequentialMemory", fn := fun _ => fun
  | [d] => { results := [.lit (.bool true)], args := [d] }
  | _ => none }
def faultFreeRunsMatchSequentialMemoryRow : OpenClaim := { program := "qxb6500750adoor", sum := "1b6e6b1b6d3ef33294753f96f361d65492d3912c74a5c434f00a48f5d9a9c879", func := "e2e/xbarlaw.FaultFreeRunsMatchSequentialMemory", spec := "faultFreeRunsMatchSequentialMemory", unfollowed := true, recurses := true, named := ["e2e/xbar.windows", "math/bits.deBruijn32tab", "math/bits.deBruijn64tab", "e2e/api.Map"], plainKeys := false, apart := false, laid := [("e2e/api.Map", laid_e2e_api_Map), ("math/bits.deBruijn32tab", laid_math_bits_deBruijn32tab), ("math/bits.deBruijn64tab", laid_math_bits_deBruijn64tab), ("e2e/xbar.windows", laid_e2e_xbar_windows)] }
def FaultFreeRunsMatchSequentialMemorySaid : Prop := faultFreeRunsMatchSequentialMemoryRow.holds Tryd.pinned (OpenSpec.ofChange faultFreeRunsMatchSequentialMemorySpec)

/-- ITS FALSE NEIGHBOUR: 'it returns false'. Refute it at one input. -/
def faultFreeRunsMatchSequentialMemoryWrong : ChangeSpec := { name := "faultFreeRunsMatchSequentialMemory", fn := fun _ => fun
  | [d] => { results := [.lit (.bool false)], args := [d] }
  | _ => none }
def FaultFreeRunsMatchSequentialMemoryWrongFalsely : Prop := faultFreeRunsMatchSequentialMemoryRow.holds Tryd.pinned (OpenSpec.ofChange faultFreeRunsMatchSequentialMemoryWrong)

end Rows
end Go.Proofs.Qxb6500750aDoor
