/-
  No cell of these rows narrows 'for every input' (looked for: loops, veiled, ifaces, maps, wideKeys, modest, calm, conditions, laid).
  DERIVED. THE GIVEN ROWS OF THIS SEAT. 12 by the template 'for every input the law returns true; each argument reads behind the call as it read before'; 0 by the template 'total and deterministic' (their statements: YtcnjiffoghganaaTotals.lean).
  GIVEN WITH THE SEED: the statements are not yours to turn. If you find one false, say at which input.
  Laid BY PROGRAM, IN A SANDBOX (cutbox-rows.mjs): the forced cells as the released guide's own fill.sh prints them over the translation a0f04a58077567ca… (all of the seat's roots in one cut). By AI agents, Wed Nov 11 2026. No macro, syntax, notation, axiom, sorry.
-/
import Derived.Test.YtcnjiffoghganaaChecked
import GoSem.Claim
import GoSem.ClaimJoined
import GoSem.ClaimMapViews
import Derived.JoinedTies
import Derived.KernelRfl
namespace Go.Proofs.Ytcnjiffoghganaa
/- THE CELL 'sum', in the pinned program and in every row, IS THE sha256 OF THE DUMP (.gsa) THAT YtcnjiffoghganaaProg.lean LOADS. Nothing in Lean hashes anything: it is a label: what it is worth is what the hold of that sum in a sandbox is worth. -/
noncomputable def Try.pinned : Pinned := { name := "ytcnjiffoghganaa", sum := "a0f04a58077567cab0d5231e0999d892a65f0baa624ffc0466961d9bef9dc240", checked := Try.checked }
namespace Rows
def none {H : Type} : Left H := { results := [], args := [] }

/-- 'laws.FnExactIsDesk': WHATEVER THE INPUT: true; the input reads as it did. -/
def fnExactIsDeskSpec : ChangeSpec := { name := "fnExactIsDesk", fn := fun _ => fun
  | [d] => { results := [.lit (.bool true)], args := [d] }
  | _ => none }
def fnExactIsDeskRow : OpenClaim := { program := "ytcnjiffoghganaa", sum := "a0f04a58077567cab0d5231e0999d892a65f0baa624ffc0466961d9bef9dc240", func := "loop.example/g01304/laws.FnExactIsDesk", spec := "fnExactIsDesk", unfollowed := true, recurses := true, apart := false }
def FnExactIsDeskSaid : Prop := fnExactIsDeskRow.holds Try.pinned (OpenSpec.ofChange fnExactIsDeskSpec)

/-- ITS FALSE NEIGHBOUR: 'it returns false'. Refute it at one input. -/
def fnExactIsDeskWrong : ChangeSpec := { name := "fnExactIsDesk", fn := fun _ => fun
  | [d] => { results := [.lit (.bool false)], args := [d] }
  | _ => none }
def FnExactIsDeskWrongFalsely : Prop := fnExactIsDeskRow.holds Try.pinned (OpenSpec.ofChange fnExactIsDeskWrong)

/-- 'laws.FnExactSmoothKeys': WHATEVER THE INPUT: true; the input reads as it did. -/
def fnExactSmoothKeysSpec : ChangeSpec := { name := "fnExactSmoothKeys", fn := fun _ => fun
  | [d1, d2] => { results := [.lit (.bool true)], args := [d1, d2] }
  | _ => none }
def fnExactSmoothKeysRow : OpenClaim := { program := "ytcnjiffoghganaa", sum := "a0f04a58077567cab0d5231e0999d892a65f0baa624ffc0466961d9bef9dc240", func := "loop.example/g01304/laws.FnExactSmoothKeys", spec := "fnExactSmoothKeys", unfollowed := true, recurses := true, apart := false }
def FnExactSmoothKeysSaid : Prop := fnExactSmoothKeysRow.holds Try.pinned (OpenSpec.ofChange fnExactSmoothKeysSpec)

/-- ITS FALSE NEIGHBOUR: 'it returns false'. Refute it at one input. -/
def fnExactSmoothKeysWrong : ChangeSpec := { name := "fnExactSmoothKeys", fn := fun _ => fun
  | [d1, d2] => { results := [.lit (.bool false)], args := [d1, d2] }
  | _ => none }
def FnExactSmoothKeysWrongFalsely : Prop := fnExactSmoothKeysRow.holds Try.pinned (OpenSpec.ofChange fnExactSmoothKeysWrong)

/-- 'laws.FnExactMasterPins': WHATEVER THE INPUT: true; the input reads as it did. -/
def fnExactMasterPinsSpec : ChangeSpec := { name := "fnExactMasterPins", fn := fun _ => fun
  | [d1, d2] => { results := [.lit (.bool true)], args := [d1, d2] }
  | _ => none }
def fnExactMasterPinsRow : OpenClaim := { program := "ytcnjiffoghganaa", sum := "a0f04a58077567cab0d5231e0999d892a65f0baa624ffc0466961d9bef9dc240", func := "loop.example/g01304/laws.FnExactMasterPins", spec := "fnExactMasterPins", unfollowed := true, recurses := true, apart := false }
def FnExactMasterPinsSaid : Prop := fnExactMasterPinsRow.holds Try.pinned (OpenSpec.ofChange fnExactMasterPinsSpec)

/-- ITS FALSE NEIGHBOUR: 'it returns false'. Refute it at one input. -/
def fnExactMasterPinsWrong : ChangeSpec := { name := "fnExactMasterPins", fn := fun _ => fun
  | [d1, d2] => { results := [.lit (.bool false)], args := [d1, d2] }
  | _ => none }
def FnExactMasterPinsWrongFalsely : Prop := fnExactMasterPinsRow.holds Try.pinned (OpenSpec.ofChange fnExactMasterPinsWrong)

/-- 'laws.FnExactAllKeys': WHATEVER THE INPUT: true; the input reads as it did. -/
def fnExactAllKeysSpec : ChangeSpec := { name := "fnExactAllKeys", fn := fun _ => fun
  | [d] => { results := [.lit (.bool true)], args := [d] }
  | _ => none }
def fnExactAllKeysRow : OpenClaim := { program := "ytcnjiffoghganaa", sum := "a0f04a58077567cab0d5231e0999d892a65f0baa624ffc0466961d9bef9dc240", func := "loop.example/g01304/laws.FnExactAllKeys", spec := "fnExactAllKeys", unfollowed := true, recurses := true, apart := false }
def FnExactAllKeysSaid : Prop := fnExactAllKeysRow.holds Try.pinned (OpenSpec.ofChange fnExactAllKeysSpec)

/-- ITS FALSE NEIGHBOUR: 'it returns false'. Refute it at one input. -/
def fnExactAllKeysWrong : ChangeSpec := { name := "fnExactAllKeys", fn := fun _ => fun
  | [d] => { results := [.lit (.bool false)], args := [d] }
  | _ => none }
def FnExactAllKeysWrongFalsely : Prop := fnExactAllKeysRow.holds Try.pinned (OpenSpec.ofChange fnExactAllKeysWrong)

/-- 'laws.FnExactCountShared': WHATEVER THE INPUT: true; the input reads as it did. -/
def fnExactCountSharedSpec : ChangeSpec := { name := "fnExactCountShared", fn := fun _ => fun
  | [d] => { results := [.lit (.bool true)], args := [d] }
  | _ => none }
def fnExactCountSharedRow : OpenClaim := { program := "ytcnjiffoghganaa", sum := "a0f04a58077567cab0d5231e0999d892a65f0baa624ffc0466961d9bef9dc240", func := "loop.example/g01304/laws.FnExactCountShared", spec := "fnExactCountShared", unfollowed := true, recurses := true, apart := false }
def FnExactCountSharedSaid : Prop := fnExactCountSharedRow.holds Try.pinned (OpenSpec.ofChange fnExactCountSharedSpec)

/-- ITS FALSE NEIGHBOUR: 'it returns false'. Refute it at one input. -/
def fnExactCountSharedWrong : ChangeSpec := { name := "fnExactCountShared", fn := fun _ => fun
  | [d] => { results := [.lit (.bool false)], args := [d] }
  | _ => none }
def FnExactCountSharedWrongFalsely : Prop := fnExactCountSharedRow.holds Try.pinned (OpenSpec.ofChange fnExactCountSharedWrong)

/-- 'laws.FnExactTakePin': WHATEVER THE INPUT: true; the input reads as it did. -/
def fnExactTakePinSpec : ChangeSpec := { name := "fnExactTakePin", fn := fun _ => fun
  | [d1, d2, d3] => { results := [.lit (.bool true)], args := [d1, d2, d3] }
  | _ => none }
def fnExactTakePinRow : OpenClaim := { program := "ytcnjiffoghganaa", sum := "a0f04a58077567cab0d5231e0999d892a65f0baa624ffc0466961d9bef9dc240", func := "loop.example/g01304/laws.FnExactTakePin", spec := "fnExactTakePin", unfollowed := true, recurses := true, apart := false }
def FnExactTakePinSaid : Prop := fnExactTakePinRow.holds Try.pinned (OpenSpec.ofChange fnExactTakePinSpec)

/-- ITS FALSE NEIGHBOUR: 'it returns false'. Refute it at one input. -/
def fnExactTakePinWrong : ChangeSpec := { name := "fnExactTakePin", fn := fun _ => fun
  | [d1, d2, d3] => { results := [.lit (.bool false)], args := [d1, d2, d3] }
  | _ => none }
def FnExactTakePinWrongFalsely : Prop := fnExactTakePinRow.holds Try.pinned (OpenSpec.ofChange fnExactTakePinWrong)

/-- 'laws.FnExactGhostKeys': WHATEVER THE INPUT: true; the input reads as it did. -/
def fnExactGhostKeysSpec : ChangeSpec := { name := "fnExactGhostKeys", fn := fun _ => fun
  | [d] => { results := [.lit (.bool true)], args := [d] }
  | _ => none }
def fnExactGhostKeysRow : OpenClaim := { program := "ytcnjiffoghganaa", sum := "a0f04a58077567cab0d5231e0999d892a65f0baa624ffc0466961d9bef9dc240", func := "loop.example/g01304/laws.FnExactGhostKeys", spec := "fnExactGhostKeys", unfollowed := true, recurses := true, apart := false }
def FnExactGhostKeysSaid : Prop := fnExactGhostKeysRow.holds Try.pinned (OpenSpec.ofChange fnExactGhostKeysSpec)

/-- ITS FALSE NEIGHBOUR: 'it returns false'. Refute it at one input. -/
def fnExactGhostKeysWrong : ChangeSpec := { name := "fnExactGhostKeys", fn := fun _ => fun
  | [d] => { results := [.lit (.bool false)], args := [d] }
  | _ => none }
def FnExactGhostKeysWrongFalsely : Prop := fnExactGhostKeysRow.holds Try.pinned (OpenSpec.ofChange fnExactGhostKeysWrong)

/-- 'laws.FnExactMasterOf': WHATEVER THE INPUT: true; the input reads as it did. -/
def fnExactMasterOfSpec : ChangeSpec := { name := "fnExactMasterOf", fn := fun _ => fun
  | [d] => { results := [.lit (.bool true)], args := [d] }
  | _ => none }
def fnExactMasterOfRow : OpenClaim := { program := "ytcnjiffoghganaa", sum := "a0f04a58077567cab0d5231e0999d892a65f0baa624ffc0466961d9bef9dc240", func := "loop.example/g01304/laws.FnExactMasterOf", spec := "fnExactMasterOf", unfollowed := true, recurses := true, apart := false }
def FnExactMasterOfSaid : Prop := fnExactMasterOfRow.holds Try.pinned (OpenSpec.ofChange fnExactMasterOfSpec)

/-- ITS FALSE NEIGHBOUR: 'it returns false'. Refute it at one input. -/
def fnExactMasterOfWrong : ChangeSpec := { name := "fnExactMasterOf", fn := fun _ => fun
  | [d] => { results := [.lit (.bool false)], args := [d] }
  | _ => none }
def FnExactMasterOfWrongFalsely : Prop := fnExactMasterOfRow.holds Try.pinned (OpenSpec.ofChange fnExactMasterOfWrong)

/-- 'laws.FnExactSharedKeys': WHATEVER THE INPUT: true; the input reads as it did. -/
def fnExactSharedKeysSpec : ChangeSpec := { name := "fnExactSharedKeys", fn := fun _ => fun
  | [d] => { results := [.lit (.bool true)], args := [d] }
  | _ => none }
def fnExactSharedKeysRow : OpenClaim := { program := "ytcnjiffoghganaa", sum := "a0f04a58077567cab0d5231e0999d892a65f0baa624ffc0466961d9bef9dc240", func := "loop.example/g01304/laws.FnExactSharedKeys", spec := "fnExactSharedKeys", unfollowed := true, recurses := true, apart := false }
def FnExactSharedKeysSaid : Prop := fnExactSharedKeysRow.holds Try.pinned (OpenSpec.ofChange fnExactSharedKeysSpec)

/-- ITS FALSE NEIGHBOUR: 'it returns false'. Refute it at one input. -/
def fnExactSharedKeysWrong : ChangeSpec := { name := "fnExactSharedKeys", fn := fun _ => fun
  | [d] => { results := [.lit (.bool false)], args := [d] }
  | _ => none }
def FnExactSharedKeysWrongFalsely : Prop := fnExactSharedKeysRow.holds Try.pinned (OpenSpec.ofChange fnExactSharedKeysWrong)

/-- 'laws.FnKeysOpenOfAll': WHATEVER THE INPUT: true; the input reads as it did. -/
def fnKeysOpenOfAllSpec : ChangeSpec := { name := "fnKeysOpenOfAll", fn := fun _ => fun
  | [d1, d2, d3, d4, d5] => { results := [.lit (.bool true)], args := [d1, d2, d3, d4, d5] }
  | _ => none }
def fnKeysOpenOfAllRow : OpenClaim := { program := "ytcnjiffoghganaa", sum := "a0f04a58077567cab0d5231e0999d892a65f0baa624ffc0466961d9bef9dc240", func := "loop.example/g01304/laws.FnKeysOpenOfAll", spec := "fnKeysOpenOfAll", unfollowed := true, recurses := true, apart := false }
def FnKeysOpenOfAllSaid : Prop := fnKeysOpenOfAllRow.holds Try.pinned (OpenSpec.ofChange fnKeysOpenOfAllSpec)

/-- ITS FALSE NEIGHBOUR: 'it returns false'. Refute it at one input. -/
def fnKeysOpenOfAllWrong : ChangeSpec := { name := "fnKeysOpenOfAll", fn := fun _ => fun
  | [d1, d2, d3, d4, d5] => { results := [.lit (.bool false)], args := [d1, d2, d3, d4, d5] }
  | _ => none }
def FnKeysOpenOfAllWrongFalsely : Prop := fnKeysOpenOfAllRow.holds Try.pinned (OpenSpec.ofChange fnKeysOpenOfAllWrong)

/-- 'laws.FnKeysOpen': WHATEVER THE INPUT: true; the input reads as it did. -/
def fnKeysOpenSpec : ChangeSpec := { name := "fnKeysOpen", fn := fun _ => fun
  | [d1, d2] => { results := [.lit (.bool true)], args := [d1, d2] }
  | _ => none }
def fnKeysOpenRow : OpenClaim := { program := "ytcnjiffoghganaa", sum := "a0f04a58077567cab0d5231e0999d892a65f0baa624ffc0466961d9bef9dc240", func := "loop.example/g01304/laws.FnKeysOpen", spec := "fnKeysOpen", unfollowed := true, recurses := true, apart := false }
def FnKeysOpenSaid : Prop := fnKeysOpenRow.holds Try.pinned (OpenSpec.ofChange fnKeysOpenSpec)

/-- ITS FALSE NEIGHBOUR: 'it returns false'. Refute it at one input. -/
def fnKeysOpenWrong : ChangeSpec := { name := "fnKeysOpen", fn := fun _ => fun
  | [d1, d2] => { results := [.lit (.bool false)], args := [d1, d2] }
  | _ => none }
def FnKeysOpenWrongFalsely : Prop := fnKeysOpenRow.holds Try.pinned (OpenSpec.ofChange fnKeysOpenWrong)

/-- 'laws.FnExactAddPin': WHATEVER THE INPUT: true; the input reads as it did. -/
def fnExactAddPinSpec : ChangeSpec := { name := "fnExactAddPin", fn := fun _ => fun
  | [d1, d2, d3] => { results := [.lit (.bool true)], args := [d1, d2, d3] }
  | _ => none }
def fnExactAddPinRow : OpenClaim := { program := "ytcnjiffoghganaa", sum := "a0f04a58077567cab0d5231e0999d892a65f0baa624ffc0466961d9bef9dc240", func := "loop.example/g01304/laws.FnExactAddPin", spec := "fnExactAddPin", unfollowed := true, recurses := true, apart := false }
def FnExactAddPinSaid : Prop := fnExactAddPinRow.holds Try.pinned (OpenSpec.ofChange fnExactAddPinSpec)

/-- ITS FALSE NEIGHBOUR: 'it returns false'. Refute it at one input. -/
def fnExactAddPinWrong : ChangeSpec := { name := "fnExactAddPin", fn := fun _ => fun
  | [d1, d2, d3] => { results := [.lit (.bool false)], args := [d1, d2, d3] }
  | _ => none }
def FnExactAddPinWrongFalsely : Prop := fnExactAddPinRow.holds Try.pinned (OpenSpec.ofChange fnExactAddPinWrong)

/- THE SECOND FORM. 'bulk': how many values and letters a reading holds, each counted each time it is reached (what is shared counts as often as it is met; a slice's spare places count too). A statement '..UptoSaid' is the law's where the arguments, and the package variables that the reading takes, are together of bulk at most 1048576: NARROWER than '..Said'. Prove '..Said' where nothing that the law and all that it calls make is longer than what came in: it says more and counts as full. Else prove '..UptoSaid'. A law counts once. -/
mutual
def uptoBulk {H : Type} : DataW H → Nat
  | .lit (.string bytes) => bytes.length + 1
  | .lit _ => 1
  | .nil => 1
  | .ptr d => uptoBulk d + 1
  | .slice elems spare => uptoBulkAll elems + uptoBulkAll spare + 1
  | .agg parts => uptoBulkAll parts + 1
  | .iface _ d => uptoBulk d + 1
  | .map entries => uptoBulkEntries entries + 1
  | .held _ => 1
def uptoBulkAll {H : Type} : List (DataW H) → Nat
  | [] => 0
  | d :: r => uptoBulk d + uptoBulkAll r
def uptoBulkEntries {H : Type} : List (Lit × DataW H) → Nat
  | [] => 0
  | x :: r => uptoBulkEntry x + uptoBulkEntries r
def uptoBulkEntry {H : Type} : Lit × DataW H → Nat
  | (.string bytes, d) => bytes.length + uptoBulk d + 1
  | (_, d) => uptoBulk d + 1
 end
def uptoSmall : (H : Type) → List (DataW H) → Bool := fun _ ds => decide (uptoBulkAll ds ≤ 1048576)
def OpenSpec.upto (s : _root_.Go.ChangeSpec) : _root_.Go.OpenSpec := { _root_.Go.OpenSpec.ofChange s with cond := some uptoSmall }

/-- 'laws.FnExactIsDesk', WHERE WHAT IT READS IS OF BULK AT MOST 1048576: true; the input reads as it did. -/
def fnExactIsDeskUptoRow : OpenClaim := { program := "ytcnjiffoghganaa", sum := "a0f04a58077567cab0d5231e0999d892a65f0baa624ffc0466961d9bef9dc240", func := "loop.example/g01304/laws.FnExactIsDesk", spec := "fnExactIsDesk", unfollowed := true, recurses := true, apart := false, narrowed := true }
def FnExactIsDeskUptoSaid : Prop := fnExactIsDeskUptoRow.holds Try.pinned (OpenSpec.upto fnExactIsDeskSpec)

/-- 'laws.FnExactSmoothKeys', WHERE WHAT IT READS IS OF BULK AT MOST 1048576: true; the input reads as it did. -/
def fnExactSmoothKeysUptoRow : OpenClaim := { program := "ytcnjiffoghganaa", sum := "a0f04a58077567cab0d5231e0999d892a65f0baa624ffc0466961d9bef9dc240", func := "loop.example/g01304/laws.FnExactSmoothKeys", spec := "fnExactSmoothKeys", unfollowed := true, recurses := true, apart := false, narrowed := true }
def FnExactSmoothKeysUptoSaid : Prop := fnExactSmoothKeysUptoRow.holds Try.pinned (OpenSpec.upto fnExactSmoothKeysSpec)

/-- 'laws.FnExactMasterPins', WHERE WHAT IT READS IS OF BULK AT MOST 1048576: true; the input reads as it did. -/
def fnExactMasterPinsUptoRow : OpenClaim := { program := "ytcnjiffoghganaa", sum := "a0f04a58077567cab0d5231e0999d892a65f0baa624ffc0466961d9bef9dc240", func := "loop.example/g01304/laws.FnExactMasterPins", spec := "fnExactMasterPins", unfollowed := true, recurses := true, apart := false, narrowed := true }
def FnExactMasterPinsUptoSaid : Prop := fnExactMasterPinsUptoRow.holds Try.pinned (OpenSpec.upto fnExactMasterPinsSpec)

/-- 'laws.FnExactAllKeys', WHERE WHAT IT READS IS OF BULK AT MOST 1048576: true; the input reads as it did. -/
def fnExactAllKeysUptoRow : OpenClaim := { program := "ytcnjiffoghganaa", sum := "a0f04a58077567cab0d5231e0999d892a65f0baa624ffc0466961d9bef9dc240", func := "loop.example/g01304/laws.FnExactAllKeys", spec := "fnExactAllKeys", unfollowed := true, recurses := true, apart := false, narrowed := true }
def FnExactAllKeysUptoSaid : Prop := fnExactAllKeysUptoRow.holds Try.pinned (OpenSpec.upto fnExactAllKeysSpec)

/-- 'laws.FnExactCountShared', WHERE WHAT IT READS IS OF BULK AT MOST 1048576: true; the input reads as it did. -/
def fnExactCountSharedUptoRow : OpenClaim := { program := "ytcnjiffoghganaa", sum := "a0f04a58077567cab0d5231e0999d892a65f0baa624ffc0466961d9bef9dc240", func := "loop.example/g01304/laws.FnExactCountShared", spec := "fnExactCountShared", unfollowed := true, recurses := true, apart := false, narrowed := true }
def FnExactCountSharedUptoSaid : Prop := fnExactCountSharedUptoRow.holds Try.pinned (OpenSpec.upto fnExactCountSharedSpec)

/-- 'laws.FnExactTakePin', WHERE WHAT IT READS IS OF BULK AT MOST 1048576: true; the input reads as it did. -/
def fnExactTakePinUptoRow : OpenClaim := { program := "ytcnjiffoghganaa", sum := "a0f04a58077567cab0d5231e0999d892a65f0baa624ffc0466961d9bef9dc240", func := "loop.example/g01304/laws.FnExactTakePin", spec := "fnExactTakePin", unfollowed := true, recurses := true, apart := false, narrowed := true }
def FnExactTakePinUptoSaid : Prop := fnExactTakePinUptoRow.holds Try.pinned (OpenSpec.upto fnExactTakePinSpec)

/-- 'laws.FnExactGhostKeys', WHERE WHAT IT READS IS OF BULK AT MOST 1048576: true; the input reads as it did. -/
def fnExactGhostKeysUptoRow : OpenClaim := { program := "ytcnjiffoghganaa", sum := "a0f04a58077567cab0d5231e0999d892a65f0baa624ffc0466961d9bef9dc240", func := "loop.example/g01304/laws.FnExactGhostKeys", spec := "fnExactGhostKeys", unfollowed := true, recurses := true, apart := false, narrowed := true }
def FnExactGhostKeysUptoSaid : Prop := fnExactGhostKeysUptoRow.holds Try.pinned (OpenSpec.upto fnExactGhostKeysSpec)

/-- 'laws.FnExactMasterOf', WHERE WHAT IT READS IS OF BULK AT MOST 1048576: true; the input reads as it did. -/
def fnExactMasterOfUptoRow : OpenClaim := { program := "ytcnjiffoghganaa", sum := "a0f04a58077567cab0d5231e0999d892a65f0baa624ffc0466961d9bef9dc240", func := "loop.example/g01304/laws.FnExactMasterOf", spec := "fnExactMasterOf", unfollowed := true, recurses := true, apart := false, narrowed := true }
def FnExactMasterOfUptoSaid : Prop := fnExactMasterOfUptoRow.holds Try.pinned (OpenSpec.upto fnExactMasterOfSpec)

/-- 'laws.FnExactSharedKeys', WHERE WHAT IT READS IS OF BULK AT MOST 1048576: true; the input reads as it did. -/
def fnExactSharedKeysUptoRow : OpenClaim := { program := "ytcnjiffoghganaa", sum := "a0f04a58077567cab0d5231e0999d892a65f0baa624ffc0466961d9bef9dc240", func := "loop.example/g01304/laws.FnExactSharedKeys", spec := "fnExactSharedKeys", unfollowed := true, recurses := true, apart := false, narrowed := true }
def FnExactSharedKeysUptoSaid : Prop := fnExactSharedKeysUptoRow.holds Try.pinned (OpenSpec.upto fnExactSharedKeysSpec)

/-- 'laws.FnKeysOpenOfAll', WHERE WHAT IT READS IS OF BULK AT MOST 1048576: true; the input reads as it did. -/
def fnKeysOpenOfAllUptoRow : OpenClaim := { program := "ytcnjiffoghganaa", sum := "a0f04a58077567cab0d5231e0999d892a65f0baa624ffc0466961d9bef9dc240", func := "loop.example/g01304/laws.FnKeysOpenOfAll", spec := "fnKeysOpenOfAll", unfollowed := true, recurses := true, apart := false, narrowed := true }
def FnKeysOpenOfAllUptoSaid : Prop := fnKeysOpenOfAllUptoRow.holds Try.pinned (OpenSpec.upto fnKeysOpenOfAllSpec)

/-- 'laws.FnKeysOpen', WHERE WHAT IT READS IS OF BULK AT MOST 1048576: true; the input reads as it did. -/
def fnKeysOpenUptoRow : OpenClaim := { program := "ytcnjiffoghganaa", sum := "a0f04a58077567cab0d5231e0999d892a65f0baa624ffc0466961d9bef9dc240", func := "loop.example/g01304/laws.FnKeysOpen", spec := "fnKeysOpen", unfollowed := true, recurses := true, apart := false, narrowed := true }
def FnKeysOpenUptoSaid : Prop := fnKeysOpenUptoRow.holds Try.pinned (OpenSpec.upto fnKeysOpenSpec)

/-- 'laws.FnExactAddPin', WHERE WHAT IT READS IS OF BULK AT MOST 1048576: true; the input reads as it did. -/
def fnExactAddPinUptoRow : OpenClaim := { program := "ytcnjiffoghganaa", sum := "a0f04a58077567cab0d5231e0999d892a65f0baa624ffc0466961d9bef9dc240", func := "loop.example/g01304/laws.FnExactAddPin", spec := "fnExactAddPin", unfollowed := true, recurses := true, apart := false, narrowed := true }
def FnExactAddPinUptoSaid : Prop := fnExactAddPinUptoRow.holds Try.pinned (OpenSpec.upto fnExactAddPinSpec)

end Rows
end Go.Proofs.Ytcnjiffoghganaa
