/-
  No cell of these rows narrows 'for every input' (looked for: loops, veiled, ifaces, maps, wideKeys, modest, calm, conditions, laid).
  DERIVED. THE GIVEN ROWS OF THIS SEAT. 8 by the template 'for every input the law returns true; each argument reads behind the call as it read before'; 0 by the template 'total and deterministic' (their statements: YtacbolonkenkcaaTotals.lean).
  GIVEN WITH THE SEED: the statements are not yours to turn. If you find one false, say at which input.
  Laid BY PROGRAM, IN A SANDBOX (cutbox-rows.mjs): the forced cells as the released guide's own fill.sh prints them over the translation 8c2aa2dd1840a9ef… (all of the seat's roots in one cut). By AI agents, Wed Nov 11 2026. No macro, syntax, notation, axiom, sorry.
-/
import Derived.Test.YtacbolonkenkcaaChecked
import GoSem.Claim
import GoSem.ClaimJoined
import GoSem.ClaimMapViews
import Derived.JoinedTies
import Derived.KernelRfl
namespace Go.Proofs.Ytacbolonkenkcaa
/- THE CELL 'sum', in the pinned program and in every row, IS THE sha256 OF THE DUMP (.gsa) THAT YtacbolonkenkcaaProg.lean LOADS. Nothing in Lean hashes anything: it is a label: what it is worth is what the hold of that sum in a sandbox is worth. -/
noncomputable def Try.pinned : Pinned := { name := "ytacbolonkenkcaa", sum := "8c2aa2dd1840a9efa5dfa49f6a80d8ff0b17492f418cd94440104e290b07c8cb", checked := Try.checked }
namespace Rows
def none {H : Type} : Left H := { results := [], args := [] }

/-- 'laws.FnExactLinkTake': WHATEVER THE INPUT: true; the input reads as it did. -/
def fnExactLinkTakeSpec : ChangeSpec := { name := "fnExactLinkTake", fn := fun _ => fun
  | [d1, d2] => { results := [.lit (.bool true)], args := [d1, d2] }
  | _ => none }
def fnExactLinkTakeRow : OpenClaim := { program := "ytacbolonkenkcaa", sum := "8c2aa2dd1840a9efa5dfa49f6a80d8ff0b17492f418cd94440104e290b07c8cb", func := "loop.example/g00257/laws.FnExactLinkTake", spec := "fnExactLinkTake", unfollowed := true, recurses := true, apart := false }
def FnExactLinkTakeSaid : Prop := fnExactLinkTakeRow.holds Try.pinned (OpenSpec.ofChange fnExactLinkTakeSpec)

/-- ITS FALSE NEIGHBOUR: 'it returns false'. Refute it at one input. -/
def fnExactLinkTakeWrong : ChangeSpec := { name := "fnExactLinkTake", fn := fun _ => fun
  | [d1, d2] => { results := [.lit (.bool false)], args := [d1, d2] }
  | _ => none }
def FnExactLinkTakeWrongFalsely : Prop := fnExactLinkTakeRow.holds Try.pinned (OpenSpec.ofChange fnExactLinkTakeWrong)

/-- 'laws.FnLink': WHATEVER THE INPUT: true; the input reads as it did. -/
def fnLinkSpec : ChangeSpec := { name := "fnLink", fn := fun _ => fun
  | [d1, d2] => { results := [.lit (.bool true)], args := [d1, d2] }
  | _ => none }
def fnLinkRow : OpenClaim := { program := "ytacbolonkenkcaa", sum := "8c2aa2dd1840a9efa5dfa49f6a80d8ff0b17492f418cd94440104e290b07c8cb", func := "loop.example/g00257/laws.FnLink", spec := "fnLink", unfollowed := true, recurses := true, apart := false }
def FnLinkSaid : Prop := fnLinkRow.holds Try.pinned (OpenSpec.ofChange fnLinkSpec)

/-- ITS FALSE NEIGHBOUR: 'it returns false'. Refute it at one input. -/
def fnLinkWrong : ChangeSpec := { name := "fnLink", fn := fun _ => fun
  | [d1, d2] => { results := [.lit (.bool false)], args := [d1, d2] }
  | _ => none }
def FnLinkWrongFalsely : Prop := fnLinkRow.holds Try.pinned (OpenSpec.ofChange fnLinkWrong)

/-- 'laws.FnExactDiskStep': WHATEVER THE INPUT: true; the input reads as it did. -/
def fnExactDiskStepSpec : ChangeSpec := { name := "fnExactDiskStep", fn := fun _ => fun
  | [d1, d2] => { results := [.lit (.bool true)], args := [d1, d2] }
  | _ => none }
def fnExactDiskStepRow : OpenClaim := { program := "ytacbolonkenkcaa", sum := "8c2aa2dd1840a9efa5dfa49f6a80d8ff0b17492f418cd94440104e290b07c8cb", func := "loop.example/g00257/laws.FnExactDiskStep", spec := "fnExactDiskStep", unfollowed := true, recurses := true, apart := false }
def FnExactDiskStepSaid : Prop := fnExactDiskStepRow.holds Try.pinned (OpenSpec.ofChange fnExactDiskStepSpec)

/-- ITS FALSE NEIGHBOUR: 'it returns false'. Refute it at one input. -/
def fnExactDiskStepWrong : ChangeSpec := { name := "fnExactDiskStep", fn := fun _ => fun
  | [d1, d2] => { results := [.lit (.bool false)], args := [d1, d2] }
  | _ => none }
def FnExactDiskStepWrongFalsely : Prop := fnExactDiskStepRow.holds Try.pinned (OpenSpec.ofChange fnExactDiskStepWrong)

/-- 'laws.FnExactDiskRun': WHATEVER THE INPUT: true; the input reads as it did. -/
def fnExactDiskRunSpec : ChangeSpec := { name := "fnExactDiskRun", fn := fun _ => fun
  | [d1, d2] => { results := [.lit (.bool true)], args := [d1, d2] }
  | _ => none }
def fnExactDiskRunRow : OpenClaim := { program := "ytacbolonkenkcaa", sum := "8c2aa2dd1840a9efa5dfa49f6a80d8ff0b17492f418cd94440104e290b07c8cb", func := "loop.example/g00257/laws.FnExactDiskRun", spec := "fnExactDiskRun", unfollowed := true, recurses := true, apart := false }
def FnExactDiskRunSaid : Prop := fnExactDiskRunRow.holds Try.pinned (OpenSpec.ofChange fnExactDiskRunSpec)

/-- ITS FALSE NEIGHBOUR: 'it returns false'. Refute it at one input. -/
def fnExactDiskRunWrong : ChangeSpec := { name := "fnExactDiskRun", fn := fun _ => fun
  | [d1, d2] => { results := [.lit (.bool false)], args := [d1, d2] }
  | _ => none }
def FnExactDiskRunWrongFalsely : Prop := fnExactDiskRunRow.holds Try.pinned (OpenSpec.ofChange fnExactDiskRunWrong)

/-- 'laws.FnBank': WHATEVER THE INPUT: true; the input reads as it did. -/
def fnBankSpec : ChangeSpec := { name := "fnBank", fn := fun _ => fun
  | [d] => { results := [.lit (.bool true)], args := [d] }
  | _ => none }
def fnBankRow : OpenClaim := { program := "ytacbolonkenkcaa", sum := "8c2aa2dd1840a9efa5dfa49f6a80d8ff0b17492f418cd94440104e290b07c8cb", func := "loop.example/g00257/laws.FnBank", spec := "fnBank", inPlace := ["slices.overlaps[loop.example/g00257/impl.Register]", "slices.overlaps[loop.example/g00257/impl.Session]"], unfollowed := true, recurses := true, apart := false }
def FnBankSaid : Prop := fnBankRow.holds Try.pinned (OpenSpec.ofChange fnBankSpec)

/-- ITS FALSE NEIGHBOUR: 'it returns false'. Refute it at one input. -/
def fnBankWrong : ChangeSpec := { name := "fnBank", fn := fun _ => fun
  | [d] => { results := [.lit (.bool false)], args := [d] }
  | _ => none }
def FnBankWrongFalsely : Prop := fnBankRow.holds Try.pinned (OpenSpec.ofChange fnBankWrong)

/-- 'laws.FnHolders': WHATEVER THE INPUT: true; the input reads as it did. -/
def fnHoldersSpec : ChangeSpec := { name := "fnHolders", fn := fun _ => fun
  | [d1, d2] => { results := [.lit (.bool true)], args := [d1, d2] }
  | _ => none }
def fnHoldersRow : OpenClaim := { program := "ytacbolonkenkcaa", sum := "8c2aa2dd1840a9efa5dfa49f6a80d8ff0b17492f418cd94440104e290b07c8cb", func := "loop.example/g00257/laws.FnHolders", spec := "fnHolders", inPlace := ["slices.overlaps[int]"], unfollowed := true, recurses := true, apart := false }
def FnHoldersSaid : Prop := fnHoldersRow.holds Try.pinned (OpenSpec.ofChange fnHoldersSpec)

/-- ITS FALSE NEIGHBOUR: 'it returns false'. Refute it at one input. -/
def fnHoldersWrong : ChangeSpec := { name := "fnHolders", fn := fun _ => fun
  | [d1, d2] => { results := [.lit (.bool false)], args := [d1, d2] }
  | _ => none }
def FnHoldersWrongFalsely : Prop := fnHoldersRow.holds Try.pinned (OpenSpec.ofChange fnHoldersWrong)

/-- 'laws.FnExactAdvanceBank': WHATEVER THE INPUT: true; the input reads as it did. -/
def fnExactAdvanceBankSpec : ChangeSpec := { name := "fnExactAdvanceBank", fn := fun _ => fun
  | [d1, d2] => { results := [.lit (.bool true)], args := [d1, d2] }
  | _ => none }
def fnExactAdvanceBankRow : OpenClaim := { program := "ytacbolonkenkcaa", sum := "8c2aa2dd1840a9efa5dfa49f6a80d8ff0b17492f418cd94440104e290b07c8cb", func := "loop.example/g00257/laws.FnExactAdvanceBank", spec := "fnExactAdvanceBank", inPlace := ["slices.overlaps[loop.example/g00257/impl.Register]", "slices.overlaps[loop.example/g00257/impl.Session]"], unfollowed := true, recurses := true, apart := false }
def FnExactAdvanceBankSaid : Prop := fnExactAdvanceBankRow.holds Try.pinned (OpenSpec.ofChange fnExactAdvanceBankSpec)

/-- ITS FALSE NEIGHBOUR: 'it returns false'. Refute it at one input. -/
def fnExactAdvanceBankWrong : ChangeSpec := { name := "fnExactAdvanceBank", fn := fun _ => fun
  | [d1, d2] => { results := [.lit (.bool false)], args := [d1, d2] }
  | _ => none }
def FnExactAdvanceBankWrongFalsely : Prop := fnExactAdvanceBankRow.holds Try.pinned (OpenSpec.ofChange fnExactAdvanceBankWrong)

/-- 'laws.FnExactBankRun': WHATEVER THE INPUT: true; the input reads as it did. -/
def fnExactBankRunSpec : ChangeSpec := { name := "fnExactBankRun", fn := fun _ => fun
  | [d] => { results := [.lit (.bool true)], args := [d] }
  | _ => none }
def fnExactBankRunRow : OpenClaim := { program := "ytacbolonkenkcaa", sum := "8c2aa2dd1840a9efa5dfa49f6a80d8ff0b17492f418cd94440104e290b07c8cb", func := "loop.example/g00257/laws.FnExactBankRun", spec := "fnExactBankRun", inPlace := ["slices.overlaps[loop.example/g00257/impl.Register]", "slices.overlaps[loop.example/g00257/impl.Session]"], unfollowed := true, recurses := true, apart := false }
def FnExactBankRunSaid : Prop := fnExactBankRunRow.holds Try.pinned (OpenSpec.ofChange fnExactBankRunSpec)

/-- ITS FALSE NEIGHBOUR: 'it returns false'. Refute it at one input. -/
def fnExactBankRunWrong : ChangeSpec := { name := "fnExactBankRun", fn := fun _ => fun
  | [d] => { results := [.lit (.bool false)], args := [d] }
  | _ => none }
def FnExactBankRunWrongFalsely : Prop := fnExactBankRunRow.holds Try.pinned (OpenSpec.ofChange fnExactBankRunWrong)

/- THE SECOND FORM. 'bulk': how many values and letters a reading holds, each counted each time it is reached (what is shared counts as often as it is met; a slice's spare places count too). A statement '..UptoSaid' is the law's where the arguments, and the package variables that the reading takes, are together of bulk at most 1048576: NARROWER than '..Said'. Prove '..Said' where nothing that the law and all that it calls make is longer than what came in: it says more and counts as full. Else prove '..UptoSaid'. A law counts once. -/
mutual
def uptoBulk {H : Type} : DataW H → Nat
  | .lit (.string bytes) => bytes.length + 1
  | .lit _ => 1
  | .nil => 1
  | .ptr d => uptoBulk d + 1
  | .slice elems spare => uptoBulkAll elems + uptoBulkAll spare + 1
  | .agg parts => uptoBulkAll parts + 1
  | .iface _ d => uptoBulk d + 1
  | .map entries => uptoBulkEntries entries + 1
  | .held _ => 1
def uptoBulkAll {H : Type} : List (DataW H) → Nat
  | [] => 0
  | d :: r => uptoBulk d + uptoBulkAll r
def uptoBulkEntries {H : Type} : List (Lit × DataW H) → Nat
  | [] => 0
  | x :: r => uptoBulkEntry x + uptoBulkEntries r
def uptoBulkEntry {H : Type} : Lit × DataW H → Nat
  | (.string bytes, d) => bytes.length + uptoBulk d + 1
  | (_, d) => uptoBulk d + 1
 end
def uptoSmall : (H : Type) → List (DataW H) → Bool := fun _ ds => decide (uptoBulkAll ds ≤ 1048576)
def OpenSpec.upto (s : _root_.Go.ChangeSpec) : _root_.Go.OpenSpec := { _root_.Go.OpenSpec.ofChange s with cond := some uptoSmall }

/-- 'laws.FnExactLinkTake', WHERE WHAT IT READS IS OF BULK AT MOST 1048576: true; the input reads as it did. -/
def fnExactLinkTakeUptoRow : OpenClaim := { program := "ytacbolonkenkcaa", sum := "8c2aa2dd1840a9efa5dfa49f6a80d8ff0b17492f418cd94440104e290b07c8cb", func := "loop.example/g00257/laws.FnExactLinkTake", spec := "fnExactLinkTake", unfollowed := true, recurses := true, apart := false, narrowed := true }
def FnExactLinkTakeUptoSaid : Prop := fnExactLinkTakeUptoRow.holds Try.pinned (OpenSpec.upto fnExactLinkTakeSpec)

/-- 'laws.FnLink', WHERE WHAT IT READS IS OF BULK AT MOST 1048576: true; the input reads as it did. -/
def fnLinkUptoRow : OpenClaim := { program := "ytacbolonkenkcaa", sum := "8c2aa2dd1840a9efa5dfa49f6a80d8ff0b17492f418cd94440104e290b07c8cb", func := "loop.example/g00257/laws.FnLink", spec := "fnLink", unfollowed := true, recurses := true, apart := false, narrowed := true }
def FnLinkUptoSaid : Prop := fnLinkUptoRow.holds Try.pinned (OpenSpec.upto fnLinkSpec)

/-- 'laws.FnExactDiskStep', WHERE WHAT IT READS IS OF BULK AT MOST 1048576: true; the input reads as it did. -/
def fnExactDiskStepUptoRow : OpenClaim := { program := "ytacbolonkenkcaa", sum := "8c2aa2dd1840a9efa5dfa49f6a80d8ff0b17492f418cd94440104e290b07c8cb", func := "loop.example/g00257/laws.FnExactDiskStep", spec := "fnExactDiskStep", unfollowed := true, recurses := true, apart := false, narrowed := true }
def FnExactDiskStepUptoSaid : Prop := fnExactDiskStepUptoRow.holds Try.pinned (OpenSpec.upto fnExactDiskStepSpec)

/-- 'laws.FnExactDiskRun', WHERE WHAT IT READS IS OF BULK AT MOST 1048576: true; the input reads as it did. -/
def fnExactDiskRunUptoRow : OpenClaim := { program := "ytacbolonkenkcaa", sum := "8c2aa2dd1840a9efa5dfa49f6a80d8ff0b17492f418cd94440104e290b07c8cb", func := "loop.example/g00257/laws.FnExactDiskRun", spec := "fnExactDiskRun", unfollowed := true, recurses := true, apart := false, narrowed := true }
def FnExactDiskRunUptoSaid : Prop := fnExactDiskRunUptoRow.holds Try.pinned (OpenSpec.upto fnExactDiskRunSpec)

/-- 'laws.FnBank', WHERE WHAT IT READS IS OF BULK AT MOST 1048576: true; the input reads as it did. -/
def fnBankUptoRow : OpenClaim := { program := "ytacbolonkenkcaa", sum := "8c2aa2dd1840a9efa5dfa49f6a80d8ff0b17492f418cd94440104e290b07c8cb", func := "loop.example/g00257/laws.FnBank", spec := "fnBank", inPlace := ["slices.overlaps[loop.example/g00257/impl.Register]", "slices.overlaps[loop.example/g00257/impl.Session]"], unfollowed := true, recurses := true, apart := false, narrowed := true }
def FnBankUptoSaid : Prop := fnBankUptoRow.holds Try.pinned (OpenSpec.upto fnBankSpec)

/-- 'laws.FnHolders', WHERE WHAT IT READS IS OF BULK AT MOST 1048576: true; the input reads as it did. -/
def fnHoldersUptoRow : OpenClaim := { program := "ytacbolonkenkcaa", sum := "8c2aa2dd1840a9efa5dfa49f6a80d8ff0b17492f418cd94440104e290b07c8cb", func := "loop.example/g00257/laws.FnHolders", spec := "fnHolders", inPlace := ["slices.overlaps[int]"], unfollowed := true, recurses := true, apart := false, narrowed := true }
def FnHoldersUptoSaid : Prop := fnHoldersUptoRow.holds Try.pinned (OpenSpec.upto fnHoldersSpec)

/-- 'laws.FnExactAdvanceBank', WHERE WHAT IT READS IS OF BULK AT MOST 1048576: true; the input reads as it did. -/
def fnExactAdvanceBankUptoRow : OpenClaim := { program := "ytacbolonkenkcaa", sum := "8c2aa2dd1840a9efa5dfa49f6a80d8ff0b17492f418cd94440104e290b07c8cb", func := "loop.example/g00257/laws.FnExactAdvanceBank", spec := "fnExactAdvanceBank", inPlace := ["slices.overlaps[loop.example/g00257/impl.Register]", "slices.overlaps[loop.example/g00257/impl.Session]"], unfollowed := true, recurses := true, apart := false, narrowed := true }
def FnExactAdvanceBankUptoSaid : Prop := fnExactAdvanceBankUptoRow.holds Try.pinned (OpenSpec.upto fnExactAdvanceBankSpec)

/-- 'laws.FnExactBankRun', WHERE WHAT IT READS IS OF BULK AT MOST 1048576: true; the input reads as it did. -/
def fnExactBankRunUptoRow : OpenClaim := { program := "ytacbolonkenkcaa", sum := "8c2aa2dd1840a9efa5dfa49f6a80d8ff0b17492f418cd94440104e290b07c8cb", func := "loop.example/g00257/laws.FnExactBankRun", spec := "fnExactBankRun", inPlace := ["slices.overlaps[loop.example/g00257/impl.Register]", "slices.overlaps[loop.example/g00257/impl.Session]"], unfollowed := true, recurses := true, apart := false, narrowed := true }
def FnExactBankRunUptoSaid : Prop := fnExactBankRunUptoRow.holds Try.pinned (OpenSpec.upto fnExactBankRunSpec)

end Rows
end Go.Proofs.Ytacbolonkenkcaa
