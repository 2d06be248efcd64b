/-
  No cell of these rows narrows 'for every input' (looked for: loops, veiled, ifaces, maps, wideKeys, modest, calm, conditions, laid).
  DERIVED. THE GIVEN ROWS OF THIS SEAT. 8 by the template 'for every input the law returns true; each argument reads behind the call as it read before'; 0 by the template 'total and deterministic' (their statements: YtoljbocejclaeaaTotals.lean).
  GIVEN WITH THE SEED: the statements are not yours to turn. If you find one false, say at which input.
  Laid BY PROGRAM, IN A SANDBOX (cutbox-rows.mjs): the forced cells as the released guide's own fill.sh prints them over the translation 08b62f9021c6ba47… (all of the seat's roots in one cut). By AI agents, Wed Nov 11 2026. No macro, syntax, notation, axiom, sorry.
-/
import Derived.Test.YtoljbocejclaeaaChecked
import GoSem.Claim
import GoSem.ClaimJoined
import GoSem.ClaimMapViews
import Derived.JoinedTies
import Derived.KernelRfl
namespace Go.Proofs.Ytoljbocejclaeaa
/- THE CELL 'sum', in the pinned program and in every row, IS THE sha256 OF THE DUMP (.gsa) THAT YtoljbocejclaeaaProg.lean LOADS. Nothing in Lean hashes anything: it is a label: what it is worth is what the hold of that sum in a sandbox is worth. -/
noncomputable def Try.pinned : Pinned := { name := "ytoljbocejclaeaa", sum := "08b62f9021c6ba476201322a1ed83586ccbe68135be5e8b018d56d0e762ee12a", checked := Try.checked }
namespace Rows
def none {H : Type} : Left H := { results := [], args := [] }

/-- 'thimblelaw15.DeviceSynced': WHATEVER THE INPUT: true; the input reads as it did. -/
def deviceSyncedSpec : ChangeSpec := { name := "deviceSynced", fn := fun _ => fun
  | [d1, d2, d3, d4] => { results := [.lit (.bool true)], args := [d1, d2, d3, d4] }
  | _ => none }
def deviceSyncedRow : OpenClaim := { program := "ytoljbocejclaeaa", sum := "08b62f9021c6ba476201322a1ed83586ccbe68135be5e8b018d56d0e762ee12a", func := "thimble/thimblelaw15.DeviceSynced", spec := "deviceSynced", unfollowed := true, recurses := true, apart := false }
def DeviceSyncedSaid : Prop := deviceSyncedRow.holds Try.pinned (OpenSpec.ofChange deviceSyncedSpec)

/-- ITS FALSE NEIGHBOUR: 'it returns false'. Refute it at one input. -/
def deviceSyncedWrong : ChangeSpec := { name := "deviceSynced", fn := fun _ => fun
  | [d1, d2, d3, d4] => { results := [.lit (.bool false)], args := [d1, d2, d3, d4] }
  | _ => none }
def DeviceSyncedWrongFalsely : Prop := deviceSyncedRow.holds Try.pinned (OpenSpec.ofChange deviceSyncedWrong)

/-- 'thimblelaw15.DeviceWhole': WHATEVER THE INPUT: true; the input reads as it did. -/
def deviceWholeSpec : ChangeSpec := { name := "deviceWhole", fn := fun _ => fun
  | [d1, d2] => { results := [.lit (.bool true)], args := [d1, d2] }
  | _ => none }
def deviceWholeRow : OpenClaim := { program := "ytoljbocejclaeaa", sum := "08b62f9021c6ba476201322a1ed83586ccbe68135be5e8b018d56d0e762ee12a", func := "thimble/thimblelaw15.DeviceWhole", spec := "deviceWhole", unfollowed := true, recurses := true, apart := false }
def DeviceWholeSaid : Prop := deviceWholeRow.holds Try.pinned (OpenSpec.ofChange deviceWholeSpec)

/-- ITS FALSE NEIGHBOUR: 'it returns false'. Refute it at one input. -/
def deviceWholeWrong : ChangeSpec := { name := "deviceWhole", fn := fun _ => fun
  | [d1, d2] => { results := [.lit (.bool false)], args := [d1, d2] }
  | _ => none }
def DeviceWholeWrongFalsely : Prop := deviceWholeRow.holds Try.pinned (OpenSpec.ofChange deviceWholeWrong)

/-- 'thimblelaw15.DeviceTorn': WHATEVER THE INPUT: true; the input reads as it did. -/
def deviceTornSpec : ChangeSpec := { name := "deviceTorn", fn := fun _ => fun
  | [d1, d2, d3, d4] => { results := [.lit (.bool true)], args := [d1, d2, d3, d4] }
  | _ => none }
def deviceTornRow : OpenClaim := { program := "ytoljbocejclaeaa", sum := "08b62f9021c6ba476201322a1ed83586ccbe68135be5e8b018d56d0e762ee12a", func := "thimble/thimblelaw15.DeviceTorn", spec := "deviceTorn", unfollowed := true, recurses := true, apart := false }
def DeviceTornSaid : Prop := deviceTornRow.holds Try.pinned (OpenSpec.ofChange deviceTornSpec)

/-- ITS FALSE NEIGHBOUR: 'it returns false'. Refute it at one input. -/
def deviceTornWrong : ChangeSpec := { name := "deviceTorn", fn := fun _ => fun
  | [d1, d2, d3, d4] => { results := [.lit (.bool false)], args := [d1, d2, d3, d4] }
  | _ => none }
def DeviceTornWrongFalsely : Prop := deviceTornRow.holds Try.pinned (OpenSpec.ofChange deviceTornWrong)

/-- 'thimblelaw15.DeviceNobody': WHATEVER THE INPUT: true; the input reads as it did. -/
def deviceNobodySpec : ChangeSpec := { name := "deviceNobody", fn := fun _ => fun
  | [d] => { results := [.lit (.bool true)], args := [d] }
  | _ => none }
def deviceNobodyRow : OpenClaim := { program := "ytoljbocejclaeaa", sum := "08b62f9021c6ba476201322a1ed83586ccbe68135be5e8b018d56d0e762ee12a", func := "thimble/thimblelaw15.DeviceNobody", spec := "deviceNobody", unfollowed := true, recurses := true, apart := false }
def DeviceNobodySaid : Prop := deviceNobodyRow.holds Try.pinned (OpenSpec.ofChange deviceNobodySpec)

/-- ITS FALSE NEIGHBOUR: 'it returns false'. Refute it at one input. -/
def deviceNobodyWrong : ChangeSpec := { name := "deviceNobody", fn := fun _ => fun
  | [d] => { results := [.lit (.bool false)], args := [d] }
  | _ => none }
def DeviceNobodyWrongFalsely : Prop := deviceNobodyRow.holds Try.pinned (OpenSpec.ofChange deviceNobodyWrong)

/-- 'thimblelaw15.DeviceCut': WHATEVER THE INPUT: true; the input reads as it did. -/
def deviceCutSpec : ChangeSpec := { name := "deviceCut", fn := fun _ => fun
  | [d1, d2] => { results := [.lit (.bool true)], args := [d1, d2] }
  | _ => none }
def deviceCutRow : OpenClaim := { program := "ytoljbocejclaeaa", sum := "08b62f9021c6ba476201322a1ed83586ccbe68135be5e8b018d56d0e762ee12a", func := "thimble/thimblelaw15.DeviceCut", spec := "deviceCut", unfollowed := true, recurses := true, apart := false }
def DeviceCutSaid : Prop := deviceCutRow.holds Try.pinned (OpenSpec.ofChange deviceCutSpec)

/-- ITS FALSE NEIGHBOUR: 'it returns false'. Refute it at one input. -/
def deviceCutWrong : ChangeSpec := { name := "deviceCut", fn := fun _ => fun
  | [d1, d2] => { results := [.lit (.bool false)], args := [d1, d2] }
  | _ => none }
def DeviceCutWrongFalsely : Prop := deviceCutRow.holds Try.pinned (OpenSpec.ofChange deviceCutWrong)

/-- 'thimblelaw17.RootNobody': WHATEVER THE INPUT: true; the input reads as it did. -/
def rootNobodySpec : ChangeSpec := { name := "rootNobody", fn := fun _ => fun
  | [d] => { results := [.lit (.bool true)], args := [d] }
  | _ => none }
def rootNobodyRow : OpenClaim := { program := "ytoljbocejclaeaa", sum := "08b62f9021c6ba476201322a1ed83586ccbe68135be5e8b018d56d0e762ee12a", func := "thimble/thimblelaw17.RootNobody", spec := "rootNobody", unfollowed := true, recurses := true, apart := false }
def RootNobodySaid : Prop := rootNobodyRow.holds Try.pinned (OpenSpec.ofChange rootNobodySpec)

/-- ITS FALSE NEIGHBOUR: 'it returns false'. Refute it at one input. -/
def rootNobodyWrong : ChangeSpec := { name := "rootNobody", fn := fun _ => fun
  | [d] => { results := [.lit (.bool false)], args := [d] }
  | _ => none }
def RootNobodyWrongFalsely : Prop := rootNobodyRow.holds Try.pinned (OpenSpec.ofChange rootNobodyWrong)

/-- 'thimblelaw17.RootTurns': WHATEVER THE INPUT: true; the input reads as it did. -/
def rootTurnsSpec : ChangeSpec := { name := "rootTurns", fn := fun _ => fun
  | [d1, d2] => { results := [.lit (.bool true)], args := [d1, d2] }
  | _ => none }
def rootTurnsRow : OpenClaim := { program := "ytoljbocejclaeaa", sum := "08b62f9021c6ba476201322a1ed83586ccbe68135be5e8b018d56d0e762ee12a", func := "thimble/thimblelaw17.RootTurns", spec := "rootTurns", unfollowed := true, recurses := true, apart := false }
def RootTurnsSaid : Prop := rootTurnsRow.holds Try.pinned (OpenSpec.ofChange rootTurnsSpec)

/-- ITS FALSE NEIGHBOUR: 'it returns false'. Refute it at one input. -/
def rootTurnsWrong : ChangeSpec := { name := "rootTurns", fn := fun _ => fun
  | [d1, d2] => { results := [.lit (.bool false)], args := [d1, d2] }
  | _ => none }
def RootTurnsWrongFalsely : Prop := rootTurnsRow.holds Try.pinned (OpenSpec.ofChange rootTurnsWrong)

/-- 'thimblelaw17.RootCrash': WHATEVER THE INPUT: true; the input reads as it did. -/
def rootCrashSpec : ChangeSpec := { name := "rootCrash", fn := fun _ => fun
  | [d1, d2, d3, d4, d5, d6] => { results := [.lit (.bool true)], args := [d1, d2, d3, d4, d5, d6] }
  | _ => none }
def rootCrashRow : OpenClaim := { program := "ytoljbocejclaeaa", sum := "08b62f9021c6ba476201322a1ed83586ccbe68135be5e8b018d56d0e762ee12a", func := "thimble/thimblelaw17.RootCrash", spec := "rootCrash", unfollowed := true, recurses := true, apart := false }
def RootCrashSaid : Prop := rootCrashRow.holds Try.pinned (OpenSpec.ofChange rootCrashSpec)

/-- ITS FALSE NEIGHBOUR: 'it returns false'. Refute it at one input. -/
def rootCrashWrong : ChangeSpec := { name := "rootCrash", fn := fun _ => fun
  | [d1, d2, d3, d4, d5, d6] => { results := [.lit (.bool false)], args := [d1, d2, d3, d4, d5, d6] }
  | _ => none }
def RootCrashWrongFalsely : Prop := rootCrashRow.holds Try.pinned (OpenSpec.ofChange rootCrashWrong)

/- THE SECOND FORM. 'bulk': how many values and letters a reading holds, each counted each time it is reached (what is shared counts as often as it is met; a slice's spare places count too). A statement '..UptoSaid' is the law's where the arguments, and the package variables that the reading takes, are together of bulk at most 1048576: NARROWER than '..Said'. Prove '..Said' where nothing that the law and all that it calls make is longer than what came in: it says more and counts as full. Else prove '..UptoSaid'. A law counts once. -/
mutual
def uptoBulk {H : Type} : DataW H → Nat
  | .lit (.string bytes) => bytes.length + 1
  | .lit _ => 1
  | .nil => 1
  | .ptr d => uptoBulk d + 1
  | .slice elems spare => uptoBulkAll elems + uptoBulkAll spare + 1
  | .agg parts => uptoBulkAll parts + 1
  | .iface _ d => uptoBulk d + 1
  | .map entries => uptoBulkEntries entries + 1
  | .held _ => 1
def uptoBulkAll {H : Type} : List (DataW H) → Nat
  | [] => 0
  | d :: r => uptoBulk d + uptoBulkAll r
def uptoBulkEntries {H : Type} : List (Lit × DataW H) → Nat
  | [] => 0
  | x :: r => uptoBulkEntry x + uptoBulkEntries r
def uptoBulkEntry {H : Type} : Lit × DataW H → Nat
  | (.string bytes, d) => bytes.length + uptoBulk d + 1
  | (_, d) => uptoBulk d + 1
 end
def uptoSmall : (H : Type) → List (DataW H) → Bool := fun _ ds => decide (uptoBulkAll ds ≤ 1048576)
def OpenSpec.upto (s : _root_.Go.ChangeSpec) : _root_.Go.OpenSpec := { _root_.Go.OpenSpec.ofChange s with cond := some uptoSmall }

/-- 'thimblelaw15.DeviceSynced', WHERE WHAT IT READS IS OF BULK AT MOST 1048576: true; the input reads as it did. -/
def deviceSyncedUptoRow : OpenClaim := { program := "ytoljbocejclaeaa", sum := "08b62f9021c6ba476201322a1ed83586ccbe68135be5e8b018d56d0e762ee12a", func := "thimble/thimblelaw15.DeviceSynced", spec := "deviceSynced", unfollowed := true, recurses := true, apart := false, narrowed := true }
def DeviceSyncedUptoSaid : Prop := deviceSyncedUptoRow.holds Try.pinned (OpenSpec.upto deviceSyncedSpec)

/-- 'thimblelaw15.DeviceWhole', WHERE WHAT IT READS IS OF BULK AT MOST 1048576: true; the input reads as it did. -/
def deviceWholeUptoRow : OpenClaim := { program := "ytoljbocejclaeaa", sum := "08b62f9021c6ba476201322a1ed83586ccbe68135be5e8b018d56d0e762ee12a", func := "thimble/thimblelaw15.DeviceWhole", spec := "deviceWhole", unfollowed := true, recurses := true, apart := false, narrowed := true }
def DeviceWholeUptoSaid : Prop := deviceWholeUptoRow.holds Try.pinned (OpenSpec.upto deviceWholeSpec)

/-- 'thimblelaw15.DeviceTorn', WHERE WHAT IT READS IS OF BULK AT MOST 1048576: true; the input reads as it did. -/
def deviceTornUptoRow : OpenClaim := { program := "ytoljbocejclaeaa", sum := "08b62f9021c6ba476201322a1ed83586ccbe68135be5e8b018d56d0e762ee12a", func := "thimble/thimblelaw15.DeviceTorn", spec := "deviceTorn", unfollowed := true, recurses := true, apart := false, narrowed := true }
def DeviceTornUptoSaid : Prop := deviceTornUptoRow.holds Try.pinned (OpenSpec.upto deviceTornSpec)

/-- 'thimblelaw15.DeviceNobody', WHERE WHAT IT READS IS OF BULK AT MOST 1048576: true; the input reads as it did. -/
def deviceNobodyUptoRow : OpenClaim := { program := "ytoljbocejclaeaa", sum := "08b62f9021c6ba476201322a1ed83586ccbe68135be5e8b018d56d0e762ee12a", func := "thimble/thimblelaw15.DeviceNobody", spec := "deviceNobody", unfollowed := true, recurses := true, apart := false, narrowed := true }
def DeviceNobodyUptoSaid : Prop := deviceNobodyUptoRow.holds Try.pinned (OpenSpec.upto deviceNobodySpec)

/-- 'thimblelaw15.DeviceCut', WHERE WHAT IT READS IS OF BULK AT MOST 1048576: true; the input reads as it did. -/
def deviceCutUptoRow : OpenClaim := { program := "ytoljbocejclaeaa", sum := "08b62f9021c6ba476201322a1ed83586ccbe68135be5e8b018d56d0e762ee12a", func := "thimble/thimblelaw15.DeviceCut", spec := "deviceCut", unfollowed := true, recurses := true, apart := false, narrowed := true }
def DeviceCutUptoSaid : Prop := deviceCutUptoRow.holds Try.pinned (OpenSpec.upto deviceCutSpec)

/-- 'thimblelaw17.RootNobody', WHERE WHAT IT READS IS OF BULK AT MOST 1048576: true; the input reads as it did. -/
def rootNobodyUptoRow : OpenClaim := { program := "ytoljbocejclaeaa", sum := "08b62f9021c6ba476201322a1ed83586ccbe68135be5e8b018d56d0e762ee12a", func := "thimble/thimblelaw17.RootNobody", spec := "rootNobody", unfollowed := true, recurses := true, apart := false, narrowed := true }
def RootNobodyUptoSaid : Prop := rootNobodyUptoRow.holds Try.pinned (OpenSpec.upto rootNobodySpec)

/-- 'thimblelaw17.RootTurns', WHERE WHAT IT READS IS OF BULK AT MOST 1048576: true; the input reads as it did. -/
def rootTurnsUptoRow : OpenClaim := { program := "ytoljbocejclaeaa", sum := "08b62f9021c6ba476201322a1ed83586ccbe68135be5e8b018d56d0e762ee12a", func := "thimble/thimblelaw17.RootTurns", spec := "rootTurns", unfollowed := true, recurses := true, apart := false, narrowed := true }
def RootTurnsUptoSaid : Prop := rootTurnsUptoRow.holds Try.pinned (OpenSpec.upto rootTurnsSpec)

/-- 'thimblelaw17.RootCrash', WHERE WHAT IT READS IS OF BULK AT MOST 1048576: true; the input reads as it did. -/
def rootCrashUptoRow : OpenClaim := { program := "ytoljbocejclaeaa", sum := "08b62f9021c6ba476201322a1ed83586ccbe68135be5e8b018d56d0e762ee12a", func := "thimble/thimblelaw17.RootCrash", spec := "rootCrash", unfollowed := true, recurses := true, apart := false, narrowed := true }
def RootCrashUptoSaid : Prop := rootCrashUptoRow.holds Try.pinned (OpenSpec.upto rootCrashSpec)

end Rows
end Go.Proofs.Ytoljbocejclaeaa
