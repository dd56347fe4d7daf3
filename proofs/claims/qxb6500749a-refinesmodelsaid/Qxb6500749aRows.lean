/-
  No cell of these rows narrows 'for every input' (looked for: loops, veiled, ifaces, maps, wideKeys, modest, calm, conditions, laid).
  DERIVED. THE GIVEN ROWS OF THIS SEAT. 8 by the template 'for every input the law returns true; each argument reads behind the call as it read before'; 0 by the template 'total and deterministic' (their statements: Qxb6500749aTotals.lean).
  GIVEN WITH THE SEED: the statements are not yours to turn. If you find one false, say at which input.
  Laid BY PROGRAM, IN A SANDBOX (cutbox-rows.mjs): the forced cells as the released guide's own fill.sh prints them over the translation 6fea25464936f4be… (all of the seat's roots in one cut). By AI agents, Wed Nov 11 2026. No macro, syntax, notation, axiom, sorry.
-/
import Derived.Test.Qxb6500749aChecked
import GoSem.Claim
import GoSem.ClaimJoined
import GoSem.ClaimMapViews
import Derived.JoinedTies
import Derived.KernelRfl
namespace Go.Proofs.Qxb6500749a
/- THE CELL 'sum', in the pinned program and in every row, IS THE sha256 OF THE DUMP (.gsa) THAT Qxb6500749aProg.lean LOADS. Nothing in Lean hashes anything: it is a label: what it is worth is what the hold of that sum in a sandbox is worth. -/
noncomputable def Try.pinned : Pinned := { name := "qxb6500749a", sum := "6fea25464936f4be8eda3f7178632bfdb4d2e1044bcc46b05d76fab01d614733", checked := Try.checked }
namespace Rows
def none {H : Type} : Left H := { results := [], args := [] }

/-- 'locksteplaw.RefinesModel': WHATEVER THE INPUT: true; the input reads as it did. -/
def refinesModelSpec : ChangeSpec := { name := "refinesModel", fn := fun _ => fun
  | [d] => { results := [.lit (.bool true)], args := [d] }
  | _ => none }
def refinesModelRow : OpenClaim := { program := "qxb6500749a", sum := "6fea25464936f4be8eda3f7178632bfdb4d2e1044bcc46b05d76fab01d614733", func := "e2e/locksteplaw.RefinesModel", spec := "refinesModel", inPlace := ["maps.clone"], unfollowed := true, recurses := true, apart := false }
def RefinesModelSaid : Prop := refinesModelRow.holds Try.pinned (OpenSpec.ofChange refinesModelSpec)

/-- ITS FALSE NEIGHBOUR: 'it returns false'. Refute it at one input. -/
def refinesModelWrong : ChangeSpec := { name := "refinesModel", fn := fun _ => fun
  | [d] => { results := [.lit (.bool false)], args := [d] }
  | _ => none }
def RefinesModelWrongFalsely : Prop := refinesModelRow.holds Try.pinned (OpenSpec.ofChange refinesModelWrong)

/-- 'locksteplaw.FaultFreePairMatchesInterpreter': WHATEVER THE INPUT: true; the input reads as it did. -/
def faultFreePairMatchesInterpreterSpec : ChangeSpec := { name := "faultFreePairMatchesInterpreter", fn := fun _ => fun
  | [d] => { results := [.lit (.bool true)], args := [d] }
  | _ => none }
def faultFreePairMatchesInterpreterRow : OpenClaim := { program := "qxb6500749a", sum := "6fea25464936f4be8eda3f7178632bfdb4d2e1044bcc46b05d76fab01d614733", func := "e2e/locksteplaw.FaultFreePairMatchesInterpreter", spec := "faultFreePairMatchesInterpreter", inPlace := ["maps.clone"], apart := false }
def FaultFreePairMatchesInterpreterSaid : Prop := faultFreePairMatchesInterpreterRow.holds Try.pinned (OpenSpec.ofChange faultFreePairMatchesInterpreterSpec)

/-- ITS FALSE NEIGHBOUR: 'it returns false'. Refute it at one input. -/
def faultFreePairMatchesInterpreterWrong : ChangeSpec := { name := "faultFreePairMatchesInterpreter", fn := fun _ => fun
  | [d] => { results := [.lit (.bool false)], args := [d] }
  | _ => none }
def FaultFreePairMatchesInterpreterWrongFalsely : Prop := faultFreePairMatchesInterpreterRow.holds Try.pinned (OpenSpec.ofChange faultFreePairMatchesInterpreterWrong)

/-- 'locksteplaw.SingleFaultFiresBeforeGrant': WHATEVER THE INPUT: true; the input reads as it did. -/
def singleFaultFiresBeforeGrantSpec : ChangeSpec := { name := "singleFaultFiresBeforeGrant", fn := fun _ => fun
  | [d] => { results := [.lit (.bool true)], args := [d] }
  | _ => none }
def singleFaultFiresBeforeGrantRow : OpenClaim := { program := "qxb6500749a", sum := "6fea25464936f4be8eda3f7178632bfdb4d2e1044bcc46b05d76fab01d614733", func := "e2e/locksteplaw.SingleFaultFiresBeforeGrant", spec := "singleFaultFiresBeforeGrant", apart := false }
def SingleFaultFiresBeforeGrantSaid : Prop := singleFaultFiresBeforeGrantRow.holds Try.pinned (OpenSpec.ofChange singleFaultFiresBeforeGrantSpec)

/-- ITS FALSE NEIGHBOUR: 'it returns false'. Refute it at one input. -/
def singleFaultFiresBeforeGrantWrong : ChangeSpec := { name := "singleFaultFiresBeforeGrant", fn := fun _ => fun
  | [d] => { results := [.lit (.bool false)], args := [d] }
  | _ => none }
def SingleFaultFiresBeforeGrantWrongFalsely : Prop := singleFaultFiresBeforeGrantRow.holds Try.pinned (OpenSpec.ofChange singleFaultFiresBeforeGrantWrong)

/-- 'locksteplaw.OneComparatorFaultLeavesTheOtherSound': WHATEVER THE INPUT: true; the input reads as it did. -/
def oneComparatorFaultLeavesTheOtherSoundSpec : ChangeSpec := { name := "oneComparatorFaultLeavesTheOtherSound", fn := fun _ => fun
  | [d] => { results := [.lit (.bool true)], args := [d] }
  | _ => none }
def oneComparatorFaultLeavesTheOtherSoundRow : OpenClaim := { program := "qxb6500749a", sum := "6fea25464936f4be8eda3f7178632bfdb4d2e1044bcc46b05d76fab01d614733", func := "e2e/locksteplaw.OneComparatorFaultLeavesTheOtherSound", spec := "oneComparatorFaultLeavesTheOtherSound", apart := false }
def OneComparatorFaultLeavesTheOtherSoundSaid : Prop := oneComparatorFaultLeavesTheOtherSoundRow.holds Try.pinned (OpenSpec.ofChange oneComparatorFaultLeavesTheOtherSoundSpec)

/-- ITS FALSE NEIGHBOUR: 'it returns false'. Refute it at one input. -/
def oneComparatorFaultLeavesTheOtherSoundWrong : ChangeSpec := { name := "oneComparatorFaultLeavesTheOtherSound", fn := fun _ => fun
  | [d] => { results := [.lit (.bool false)], args := [d] }
  | _ => none }
def OneComparatorFaultLeavesTheOtherSoundWrongFalsely : Prop := oneComparatorFaultLeavesTheOtherSoundRow.holds Try.pinned (OpenSpec.ofChange oneComparatorFaultLeavesTheOtherSoundWrong)

/-- 'locksteplaw.FaultsThatNameNothingAlterNothing': WHATEVER THE INPUT: true; the input reads as it did. -/
def faultsThatNameNothingAlterNothingSpec : ChangeSpec := { name := "faultsThatNameNothingAlterNothing", fn := fun _ => fun
  | [d] => { results := [.lit (.bool true)], args := [d] }
  | _ => none }
def faultsThatNameNothingAlterNothingRow : OpenClaim := { program := "qxb6500749a", sum := "6fea25464936f4be8eda3f7178632bfdb4d2e1044bcc46b05d76fab01d614733", func := "e2e/locksteplaw.FaultsThatNameNothingAlterNothing", spec := "faultsThatNameNothingAlterNothing", apart := false }
def FaultsThatNameNothingAlterNothingSaid : Prop := faultsThatNameNothingAlterNothingRow.holds Try.pinned (OpenSpec.ofChange faultsThatNameNothingAlterNothingSpec)

/-- ITS FALSE NEIGHBOUR: 'it returns false'. Refute it at one input. -/
def faultsThatNameNothingAlterNothingWrong : ChangeSpec := { name := "faultsThatNameNothingAlterNothing", fn := fun _ => fun
  | [d] => { results := [.lit (.bool false)], args := [d] }
  | _ => none }
def FaultsThatNameNothingAlterNothingWrongFalsely : Prop := faultsThatNameNothingAlterNothingRow.holds Try.pinned (OpenSpec.ofChange faultsThatNameNothingAlterNothingWrong)

/-- 'locksteplaw.DMAMatchesItsModel': WHATEVER THE INPUT: true; the input reads as it did. -/
def dMAMatchesItsModelSpec : ChangeSpec := { name := "dMAMatchesItsModel", fn := fun _ => fun
  | [d] => { results := [.lit (.bool true)], args := [d] }
  | _ => none }
def dMAMatchesItsModelRow : OpenClaim := { program := "qxb6500749a", sum := "6fea25464936f4be8eda3f7178632bfdb4d2e1044bcc46b05d76fab01d614733", func := "e2e/locksteplaw.DMAMatchesItsModel", spec := "dMAMatchesItsModel", inPlace := ["maps.clone"], apart := false }
def DMAMatchesItsModelSaid : Prop := dMAMatchesItsModelRow.holds Try.pinned (OpenSpec.ofChange dMAMatchesItsModelSpec)

/-- ITS FALSE NEIGHBOUR: 'it returns false'. Refute it at one input. -/
def dMAMatchesItsModelWrong : ChangeSpec := { name := "dMAMatchesItsModel", fn := fun _ => fun
  | [d] => { results := [.lit (.bool false)], args := [d] }
  | _ => none }
def DMAMatchesItsModelWrongFalsely : Prop := dMAMatchesItsModelRow.holds Try.pinned (OpenSpec.ofChange dMAMatchesItsModelWrong)

/-- 'locksteplaw.DamagedDescriptorMovesNothing': WHATEVER THE INPUT: true; the input reads as it did. -/
def damagedDescriptorMovesNothingSpec : ChangeSpec := { name := "damagedDescriptorMovesNothing", fn := fun _ => fun
  | [d] => { results := [.lit (.bool true)], args := [d] }
  | _ => none }
def damagedDescriptorMovesNothingRow : OpenClaim := { program := "qxb6500749a", sum := "6fea25464936f4be8eda3f7178632bfdb4d2e1044bcc46b05d76fab01d614733", func := "e2e/locksteplaw.DamagedDescriptorMovesNothing", spec := "damagedDescriptorMovesNothing", unfollowed := true, recurses := true, apart := false }
def DamagedDescriptorMovesNothingSaid : Prop := damagedDescriptorMovesNothingRow.holds Try.pinned (OpenSpec.ofChange damagedDescriptorMovesNothingSpec)

/-- ITS FALSE NEIGHBOUR: 'it returns false'. Refute it at one input. -/
def damagedDescriptorMovesNothingWrong : ChangeSpec := { name := "damagedDescriptorMovesNothing", fn := fun _ => fun
  | [d] => { results := [.lit (.bool false)], args := [d] }
  | _ => none }
def DamagedDescriptorMovesNothingWrongFalsely : Prop := damagedDescriptorMovesNothingRow.holds Try.pinned (OpenSpec.ofChange damagedDescriptorMovesNothingWrong)

/-- 'locksteplaw.SingleFaultInDMAStopsOrSpares': WHATEVER THE INPUT: true; the input reads as it did. -/
def singleFaultInDMAStopsOrSparesSpec : ChangeSpec := { name := "singleFaultInDMAStopsOrSpares", fn := fun _ => fun
  | [d] => { results := [.lit (.bool true)], args := [d] }
  | _ => none }
def singleFaultInDMAStopsOrSparesRow : OpenClaim := { program := "qxb6500749a", sum := "6fea25464936f4be8eda3f7178632bfdb4d2e1044bcc46b05d76fab01d614733", func := "e2e/locksteplaw.SingleFaultInDMAStopsOrSpares", spec := "singleFaultInDMAStopsOrSpares", unfollowed := true, recurses := true, apart := false }
def SingleFaultInDMAStopsOrSparesSaid : Prop := singleFaultInDMAStopsOrSparesRow.holds Try.pinned (OpenSpec.ofChange singleFaultInDMAStopsOrSparesSpec)

/-- ITS FALSE NEIGHBOUR: 'it returns false'. Refute it at one input. -/
def singleFaultInDMAStopsOrSparesWrong : ChangeSpec := { name := "singleFaultInDMAStopsOrSpares", fn := fun _ => fun
  | [d] => { results := [.lit (.bool false)], args := [d] }
  | _ => none }
def SingleFaultInDMAStopsOrSparesWrongFalsely : Prop := singleFaultInDMAStopsOrSparesRow.holds Try.pinned (OpenSpec.ofChange singleFaultInDMAStopsOrSparesWrong)

end Rows
end Go.Proofs.Qxb6500749a
