/-
  No cell of these rows narrows 'for every input' (looked for: loops, veiled, ifaces, maps, wideKeys, modest, calm, conditions, laid).
  DERIVED. THE GIVEN ROWS OF THIS SEAT. 4 by the template 'for every input the law returns true; each argument reads behind the call as it read before'; 0 by the template 'total and deterministic' (their statements: YtfphingbjjhjcaaGreatTotals.lean).
  GIVEN WITH THE SEED: the statements are not yours to turn. If you find one false, say at which input.
  Laid BY PROGRAM, IN A SANDBOX (cutbox-rows.mjs): the forced cells as the released guide's own fill.sh prints them over the translation 2cb1cdc5c641d91f… (all of the seat's roots in one cut). By AI agents, Wed Nov 11 2026. No macro, syntax, notation, axiom, sorry.
-/
import Derived.Test.YtfphingbjjhjcaaGreatChecked
import GoSem.Claim
import GoSem.ClaimJoined
import GoSem.ClaimMapViews
import Derived.JoinedTies
import Derived.KernelRfl
namespace Go.Proofs.YtfphingbjjhjcaaGreat
/- THE CELL 'sum', in the pinned program and in every row, IS THE sha256 OF THE DUMP (.gsa) THAT YtfphingbjjhjcaaGreatProg.lean LOADS. Nothing in Lean hashes anything: it is a label: what it is worth is what the hold of that sum in a sandbox is worth. -/
noncomputable def Tryz.pinned : Pinned := { name := "ytfphingbjjhjcaagreat", sum := "2cb1cdc5c641d91fbf8a829a12c77f69a5801a7f26bbb69870584427db9fa834", checked := Tryz.checked }
namespace Rows
def none {H : Type} : Left H := { results := [], args := [] }

/-- 'laws.FnSupers': WHATEVER THE INPUT: true; the input reads as it did. -/
def fnSupersSpec : ChangeSpec := { name := "fnSupers", fn := fun _ => fun
  | [d1, d2] => { results := [.lit (.bool true)], args := [d1, d2] }
  | _ => none }
def fnSupersRow : OpenClaim := { program := "ytfphingbjjhjcaagreat", sum := "2cb1cdc5c641d91fbf8a829a12c77f69a5801a7f26bbb69870584427db9fa834", func := "loop.example/g00257/laws.FnSupers", spec := "fnSupers", unfollowed := true, recurses := true, apart := false }
def FnSupersSaid : Prop := fnSupersRow.holds Tryz.pinned (OpenSpec.ofChange fnSupersSpec)

/-- ITS FALSE NEIGHBOUR: 'it returns false'. Refute it at one input. -/
def fnSupersWrong : ChangeSpec := { name := "fnSupers", fn := fun _ => fun
  | [d1, d2] => { results := [.lit (.bool false)], args := [d1, d2] }
  | _ => none }
def FnSupersWrongFalsely : Prop := fnSupersRow.holds Tryz.pinned (OpenSpec.ofChange fnSupersWrong)

/-- 'laws.FnExactOpenSlots': WHATEVER THE INPUT: true; the input reads as it did. -/
def fnExactOpenSlotsSpec : ChangeSpec := { name := "fnExactOpenSlots", fn := fun _ => fun
  | [d1, d2] => { results := [.lit (.bool true)], args := [d1, d2] }
  | _ => none }
def fnExactOpenSlotsRow : OpenClaim := { program := "ytfphingbjjhjcaagreat", sum := "2cb1cdc5c641d91fbf8a829a12c77f69a5801a7f26bbb69870584427db9fa834", func := "loop.example/g00257/laws.FnExactOpenSlots", spec := "fnExactOpenSlots", unfollowed := true, recurses := true, apart := false }
def FnExactOpenSlotsSaid : Prop := fnExactOpenSlotsRow.holds Tryz.pinned (OpenSpec.ofChange fnExactOpenSlotsSpec)

/-- ITS FALSE NEIGHBOUR: 'it returns false'. Refute it at one input. -/
def fnExactOpenSlotsWrong : ChangeSpec := { name := "fnExactOpenSlots", fn := fun _ => fun
  | [d1, d2] => { results := [.lit (.bool false)], args := [d1, d2] }
  | _ => none }
def FnExactOpenSlotsWrongFalsely : Prop := fnExactOpenSlotsRow.holds Tryz.pinned (OpenSpec.ofChange fnExactOpenSlotsWrong)

/-- 'laws.FnExactSlotPlan': WHATEVER THE INPUT: true; the input reads as it did. -/
def fnExactSlotPlanSpec : ChangeSpec := { name := "fnExactSlotPlan", fn := fun _ => fun
  | [d1, d2, d3] => { results := [.lit (.bool true)], args := [d1, d2, d3] }
  | _ => none }
def fnExactSlotPlanRow : OpenClaim := { program := "ytfphingbjjhjcaagreat", sum := "2cb1cdc5c641d91fbf8a829a12c77f69a5801a7f26bbb69870584427db9fa834", func := "loop.example/g00257/laws.FnExactSlotPlan", spec := "fnExactSlotPlan", unfollowed := true, recurses := true, apart := false }
def FnExactSlotPlanSaid : Prop := fnExactSlotPlanRow.holds Tryz.pinned (OpenSpec.ofChange fnExactSlotPlanSpec)

/-- ITS FALSE NEIGHBOUR: 'it returns false'. Refute it at one input. -/
def fnExactSlotPlanWrong : ChangeSpec := { name := "fnExactSlotPlan", fn := fun _ => fun
  | [d1, d2, d3] => { results := [.lit (.bool false)], args := [d1, d2, d3] }
  | _ => none }
def FnExactSlotPlanWrongFalsely : Prop := fnExactSlotPlanRow.holds Tryz.pinned (OpenSpec.ofChange fnExactSlotPlanWrong)

/-- 'laws.FnExactSaveSlot': WHATEVER THE INPUT: true; the input reads as it did. -/
def fnExactSaveSlotSpec : ChangeSpec := { name := "fnExactSaveSlot", fn := fun _ => fun
  | [d1, d2, d3] => { results := [.lit (.bool true)], args := [d1, d2, d3] }
  | _ => none }
def fnExactSaveSlotRow : OpenClaim := { program := "ytfphingbjjhjcaagreat", sum := "2cb1cdc5c641d91fbf8a829a12c77f69a5801a7f26bbb69870584427db9fa834", func := "loop.example/g00257/laws.FnExactSaveSlot", spec := "fnExactSaveSlot", unfollowed := true, recurses := true, apart := false }
def FnExactSaveSlotSaid : Prop := fnExactSaveSlotRow.holds Tryz.pinned (OpenSpec.ofChange fnExactSaveSlotSpec)

/-- ITS FALSE NEIGHBOUR: 'it returns false'. Refute it at one input. -/
def fnExactSaveSlotWrong : ChangeSpec := { name := "fnExactSaveSlot", fn := fun _ => fun
  | [d1, d2, d3] => { results := [.lit (.bool false)], args := [d1, d2, d3] }
  | _ => none }
def FnExactSaveSlotWrongFalsely : Prop := fnExactSaveSlotRow.holds Tryz.pinned (OpenSpec.ofChange fnExactSaveSlotWrong)

/- THE SECOND FORM. 'bulk': how many values and letters a reading holds, each counted each time it is reached (what is shared counts as often as it is met; a slice's spare places count too). A statement '..UptoSaid' is the law's where the arguments, and the package variables that the reading takes, are together of bulk at most 1048576: NARROWER than '..Said'. Prove '..Said' where nothing that the law and all that it calls make is longer than what came in: it says more and counts as full. Else prove '..UptoSaid'. A law counts once. -/
mutual
def uptoBulk {H : Type} : DataW H → Nat
  | .lit (.string bytes) => bytes.length + 1
  | .lit _ => 1
  | .nil => 1
  | .ptr d => uptoBulk d + 1
  | .slice elems spare => uptoBulkAll elems + uptoBulkAll spare + 1
  | .agg parts => uptoBulkAll parts + 1
  | .iface _ d => uptoBulk d + 1
  | .map entries => uptoBulkEntries entries + 1
  | .held _ => 1
def uptoBulkAll {H : Type} : List (DataW H) → Nat
  | [] => 0
  | d :: r => uptoBulk d + uptoBulkAll r
def uptoBulkEntries {H : Type} : List (Lit × DataW H) → Nat
  | [] => 0
  | x :: r => uptoBulkEntry x + uptoBulkEntries r
def uptoBulkEntry {H : Type} : Lit × DataW H → Nat
  | (.string bytes, d) => bytes.length + uptoBulk d + 1
  | (_, d) => uptoBulk d + 1
 end
def uptoSmall : (H : Type) → List (DataW H) → Bool := fun _ ds => decide (uptoBulkAll ds ≤ 1048576)
def OpenSpec.upto (s : _root_.Go.ChangeSpec) : _root_.Go.OpenSpec := { _root_.Go.OpenSpec.ofChange s with cond := some uptoSmall }

/-- 'laws.FnSupers', WHERE WHAT IT READS IS OF BULK AT MOST 1048576: true; the input reads as it did. -/
def fnSupersUptoRow : OpenClaim := { program := "ytfphingbjjhjcaagreat", sum := "2cb1cdc5c641d91fbf8a829a12c77f69a5801a7f26bbb69870584427db9fa834", func := "loop.example/g00257/laws.FnSupers", spec := "fnSupers", unfollowed := true, recurses := true, apart := false, narrowed := true }
def FnSupersUptoSaid : Prop := fnSupersUptoRow.holds Tryz.pinned (OpenSpec.upto fnSupersSpec)

/-- 'laws.FnExactOpenSlots', WHERE WHAT IT READS IS OF BULK AT MOST 1048576: true; the input reads as it did. -/
def fnExactOpenSlotsUptoRow : OpenClaim := { program := "ytfphingbjjhjcaagreat", sum := "2cb1cdc5c641d91fbf8a829a12c77f69a5801a7f26bbb69870584427db9fa834", func := "loop.example/g00257/laws.FnExactOpenSlots", spec := "fnExactOpenSlots", unfollowed := true, recurses := true, apart := false, narrowed := true }
def FnExactOpenSlotsUptoSaid : Prop := fnExactOpenSlotsUptoRow.holds Tryz.pinned (OpenSpec.upto fnExactOpenSlotsSpec)

/-- 'laws.FnExactSlotPlan', WHERE WHAT IT READS IS OF BULK AT MOST 1048576: true; the input reads as it did. -/
def fnExactSlotPlanUptoRow : OpenClaim := { program := "ytfphingbjjhjcaagreat", sum := "2cb1cdc5c641d91fbf8a829a12c77f69a5801a7f26bbb69870584427db9fa834", func := "loop.example/g00257/laws.FnExactSlotPlan", spec := "fnExactSlotPlan", unfollowed := true, recurses := true, apart := false, narrowed := true }
def FnExactSlotPlanUptoSaid : Prop := fnExactSlotPlanUptoRow.holds Tryz.pinned (OpenSpec.upto fnExactSlotPlanSpec)

/-- 'laws.FnExactSaveSlot', WHERE WHAT IT READS IS OF BULK AT MOST 1048576: true; the input reads as it did. -/
def fnExactSaveSlotUptoRow : OpenClaim := { program := "ytfphingbjjhjcaagreat", sum := "2cb1cdc5c641d91fbf8a829a12c77f69a5801a7f26bbb69870584427db9fa834", func := "loop.example/g00257/laws.FnExactSaveSlot", spec := "fnExactSaveSlot", unfollowed := true, recurses := true, apart := false, narrowed := true }
def FnExactSaveSlotUptoSaid : Prop := fnExactSaveSlotUptoRow.holds Tryz.pinned (OpenSpec.upto fnExactSaveSlotSpec)

end Rows
end Go.Proofs.YtfphingbjjhjcaaGreat
