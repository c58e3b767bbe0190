/-
  No cell of these rows narrows 'for every input' (looked for: loops, veiled, ifaces, maps, wideKeys, modest, calm, conditions, laid).
  DERIVED. THE GIVEN ROWS OF THIS SEAT. 4 by the template 'for every input the law returns true; each argument reads behind the call as it read before'; 0 by the template 'total and deterministic' (their statements: YtbmjjagpmghjeaaTotals.lean).
  GIVEN WITH THE SEED: the statements are not yours to turn. If you find one false, say at which input.
  Laid BY PROGRAM, IN A SANDBOX (cutbox-rows.mjs): the forced cells as the released guide's own fill.sh prints them over the translation 0e5852175b7b1a23… (all of the seat's roots in one cut). By AI agents, Wed Nov 11 2026. No macro, syntax, notation, axiom, sorry.
-/
import Derived.Test.YtbmjjagpmghjeaaChecked
import GoSem.Claim
import GoSem.ClaimJoined
import GoSem.ClaimMapViews
import Derived.JoinedTies
import Derived.KernelRfl
namespace Go.Proofs.Ytbmjjagpmghjeaa
/- THE CELL 'sum', in the pinned program and in every row, IS THE sha256 OF THE DUMP (.gsa) THAT YtbmjjagpmghjeaaProg.lean LOADS. Nothing in Lean hashes anything: it is a label: what it is worth is what the hold of that sum in a sandbox is worth. -/
noncomputable def Try.pinned : Pinned := { name := "ytbmjjagpmghjeaa", sum := "0e5852175b7b1a23752e397465beadc070d33cf9f04599e5f544cf8d88f01726", checked := Try.checked }
namespace Rows
def none {H : Type} : Left H := { results := [], args := [] }

/-- 'laws.FnExactReadSuper': WHATEVER THE INPUT: true; the input reads as it did. -/
def fnExactReadSuperSpec : ChangeSpec := { name := "fnExactReadSuper", fn := fun _ => fun
  | [d] => { results := [.lit (.bool true)], args := [d] }
  | _ => none }
def fnExactReadSuperRow : OpenClaim := { program := "ytbmjjagpmghjeaa", sum := "0e5852175b7b1a23752e397465beadc070d33cf9f04599e5f544cf8d88f01726", func := "loop.example/g00257/laws.FnExactReadSuper", spec := "fnExactReadSuper", unfollowed := true, recurses := true, apart := false }
def FnExactReadSuperSaid : Prop := fnExactReadSuperRow.holds Try.pinned (OpenSpec.ofChange fnExactReadSuperSpec)

/-- ITS FALSE NEIGHBOUR: 'it returns false'. Refute it at one input. -/
def fnExactReadSuperWrong : ChangeSpec := { name := "fnExactReadSuper", fn := fun _ => fun
  | [d] => { results := [.lit (.bool false)], args := [d] }
  | _ => none }
def FnExactReadSuperWrongFalsely : Prop := fnExactReadSuperRow.holds Try.pinned (OpenSpec.ofChange fnExactReadSuperWrong)

/-- 'laws.FnExactLinkSend': WHATEVER THE INPUT: true; the input reads as it did. -/
def fnExactLinkSendSpec : ChangeSpec := { name := "fnExactLinkSend", fn := fun _ => fun
  | [d1, d2] => { results := [.lit (.bool true)], args := [d1, d2] }
  | _ => none }
def fnExactLinkSendRow : OpenClaim := { program := "ytbmjjagpmghjeaa", sum := "0e5852175b7b1a23752e397465beadc070d33cf9f04599e5f544cf8d88f01726", func := "loop.example/g00257/laws.FnExactLinkSend", spec := "fnExactLinkSend", unfollowed := true, recurses := true, apart := false }
def FnExactLinkSendSaid : Prop := fnExactLinkSendRow.holds Try.pinned (OpenSpec.ofChange fnExactLinkSendSpec)

/-- ITS FALSE NEIGHBOUR: 'it returns false'. Refute it at one input. -/
def fnExactLinkSendWrong : ChangeSpec := { name := "fnExactLinkSend", fn := fun _ => fun
  | [d1, d2] => { results := [.lit (.bool false)], args := [d1, d2] }
  | _ => none }
def FnExactLinkSendWrongFalsely : Prop := fnExactLinkSendRow.holds Try.pinned (OpenSpec.ofChange fnExactLinkSendWrong)

/-- 'laws.FnBankBytes': WHATEVER THE INPUT: true; the input reads as it did. -/
def fnBankBytesSpec : ChangeSpec := { name := "fnBankBytes", fn := fun _ => fun
  | [d] => { results := [.lit (.bool true)], args := [d] }
  | _ => none }
def fnBankBytesRow : OpenClaim := { program := "ytbmjjagpmghjeaa", sum := "0e5852175b7b1a23752e397465beadc070d33cf9f04599e5f544cf8d88f01726", func := "loop.example/g00257/laws.FnBankBytes", spec := "fnBankBytes", unfollowed := true, recurses := true, apart := false }
def FnBankBytesSaid : Prop := fnBankBytesRow.holds Try.pinned (OpenSpec.ofChange fnBankBytesSpec)

/-- ITS FALSE NEIGHBOUR: 'it returns false'. Refute it at one input. -/
def fnBankBytesWrong : ChangeSpec := { name := "fnBankBytes", fn := fun _ => fun
  | [d] => { results := [.lit (.bool false)], args := [d] }
  | _ => none }
def FnBankBytesWrongFalsely : Prop := fnBankBytesRow.holds Try.pinned (OpenSpec.ofChange fnBankBytesWrong)

/-- 'laws.FnExactReadSlot': WHATEVER THE INPUT: true; the input reads as it did. -/
def fnExactReadSlotSpec : ChangeSpec := { name := "fnExactReadSlot", fn := fun _ => fun
  | [d1, d2, d3] => { results := [.lit (.bool true)], args := [d1, d2, d3] }
  | _ => none }
def fnExactReadSlotRow : OpenClaim := { program := "ytbmjjagpmghjeaa", sum := "0e5852175b7b1a23752e397465beadc070d33cf9f04599e5f544cf8d88f01726", func := "loop.example/g00257/laws.FnExactReadSlot", spec := "fnExactReadSlot", unfollowed := true, recurses := true, apart := false }
def FnExactReadSlotSaid : Prop := fnExactReadSlotRow.holds Try.pinned (OpenSpec.ofChange fnExactReadSlotSpec)

/-- ITS FALSE NEIGHBOUR: 'it returns false'. Refute it at one input. -/
def fnExactReadSlotWrong : ChangeSpec := { name := "fnExactReadSlot", fn := fun _ => fun
  | [d1, d2, d3] => { results := [.lit (.bool false)], args := [d1, d2, d3] }
  | _ => none }
def FnExactReadSlotWrongFalsely : Prop := fnExactReadSlotRow.holds Try.pinned (OpenSpec.ofChange fnExactReadSlotWrong)

/- THE SECOND FORM. 'bulk': how many values and letters a reading holds, each counted each time it is reached (what is shared counts as often as it is met; a slice's spare places count too). A statement '..UptoSaid' is the law's where the arguments, and the package variables that the reading takes, are together of bulk at most 1048576: NARROWER than '..Said'. Prove '..Said' where nothing that the law and all that it calls make is longer than what came in: it says more and counts as full. Else prove '..UptoSaid'. A law counts once. -/
mutual
def uptoBulk {H : Type} : DataW H → Nat
  | .lit (.string bytes) => bytes.length + 1
  | .lit _ => 1
  | .nil => 1
  | .ptr d => uptoBulk d + 1
  | .slice elems spare => uptoBulkAll elems + uptoBulkAll spare + 1
  | .agg parts => uptoBulkAll parts + 1
  | .iface _ d => uptoBulk d + 1
  | .map entries => uptoBulkEntries entries + 1
  | .held _ => 1
def uptoBulkAll {H : Type} : List (DataW H) → Nat
  | [] => 0
  | d :: r => uptoBulk d + uptoBulkAll r
def uptoBulkEntries {H : Type} : List (Lit × DataW H) → Nat
  | [] => 0
  | x :: r => uptoBulkEntry x + uptoBulkEntries r
def uptoBulkEntry {H : Type} : Lit × DataW H → Nat
  | (.string bytes, d) => bytes.length + uptoBulk d + 1
  | (_, d) => uptoBulk d + 1
 end
def uptoSmall : (H : Type) → List (DataW H) → Bool := fun _ ds => decide (uptoBulkAll ds ≤ 1048576)
def OpenSpec.upto (s : _root_.Go.ChangeSpec) : _root_.Go.OpenSpec := { _root_.Go.OpenSpec.ofChange s with cond := some uptoSmall }

/-- 'laws.FnExactReadSuper', WHERE WHAT IT READS IS OF BULK AT MOST 1048576: true; the input reads as it did. -/
def fnExactReadSuperUptoRow : OpenClaim := { program := "ytbmjjagpmghjeaa", sum := "0e5852175b7b1a23752e397465beadc070d33cf9f04599e5f544cf8d88f01726", func := "loop.example/g00257/laws.FnExactReadSuper", spec := "fnExactReadSuper", unfollowed := true, recurses := true, apart := false, narrowed := true }
def FnExactReadSuperUptoSaid : Prop := fnExactReadSuperUptoRow.holds Try.pinned (OpenSpec.upto fnExactReadSuperSpec)

/-- 'laws.FnExactLinkSend', WHERE WHAT IT READS IS OF BULK AT MOST 1048576: true; the input reads as it did. -/
def fnExactLinkSendUptoRow : OpenClaim := { program := "ytbmjjagpmghjeaa", sum := "0e5852175b7b1a23752e397465beadc070d33cf9f04599e5f544cf8d88f01726", func := "loop.example/g00257/laws.FnExactLinkSend", spec := "fnExactLinkSend", unfollowed := true, recurses := true, apart := false, narrowed := true }
def FnExactLinkSendUptoSaid : Prop := fnExactLinkSendUptoRow.holds Try.pinned (OpenSpec.upto fnExactLinkSendSpec)

/-- 'laws.FnBankBytes', WHERE WHAT IT READS IS OF BULK AT MOST 1048576: true; the input reads as it did. -/
def fnBankBytesUptoRow : OpenClaim := { program := "ytbmjjagpmghjeaa", sum := "0e5852175b7b1a23752e397465beadc070d33cf9f04599e5f544cf8d88f01726", func := "loop.example/g00257/laws.FnBankBytes", spec := "fnBankBytes", unfollowed := true, recurses := true, apart := false, narrowed := true }
def FnBankBytesUptoSaid : Prop := fnBankBytesUptoRow.holds Try.pinned (OpenSpec.upto fnBankBytesSpec)

/-- 'laws.FnExactReadSlot', WHERE WHAT IT READS IS OF BULK AT MOST 1048576: true; the input reads as it did. -/
def fnExactReadSlotUptoRow : OpenClaim := { program := "ytbmjjagpmghjeaa", sum := "0e5852175b7b1a23752e397465beadc070d33cf9f04599e5f544cf8d88f01726", func := "loop.example/g00257/laws.FnExactReadSlot", spec := "fnExactReadSlot", unfollowed := true, recurses := true, apart := false, narrowed := true }
def FnExactReadSlotUptoSaid : Prop := fnExactReadSlotUptoRow.holds Try.pinned (OpenSpec.upto fnExactReadSlotSpec)

end Rows
end Go.Proofs.Ytbmjjagpmghjeaa
