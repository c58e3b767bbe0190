/- FnMount: for every input the law returns true, and each argument reads behind the call as it read before. Conditions: those of the given row, no others. -/
import Derived.Test.YtimnollnngmjpaaGreatDoorVA6
import Derived.Test.YtimnollnngmjpaaGreatDoorRows
import Derived.Test.YtimnollnngmjpaaGreatDoorTie
import Derived.Test.YtimnollnngmjpaaGreatDoorCards
import Derived.WalkKit
import Derived.ProofKit
import Derived.OpenShut
import Derived.ShutString
import Derived.ChangeOld
import Derived.Below
import Derived.SizedLaws
import Derived.LaidMore
import Derived.Lay
import Derived.SevenTiedAt
import Derived.Stop.Joined
set_option linter.unusedVariables false
namespace Go.Proofs.YtimnollnngmjpaaGreatDoor.fnMount
open Go Go.Vm Go.Proofs Go.ChangeShapes Go.WideShapes Go.ChangeAt Go.RowKit
open Go.ChangeMaps (open_string shut_string)
theorem own : ownKnob Tryz.prog.godebug = none := by kernel_rfl
theorem laidOut : laidOutB Tryz.prog = true := by kernel_rfl
theorem ty0 : TyOK Tryz.prog (.sl (.int .u8)) 22 := (tyB_spec (.sl (.int .u8))).1 22 (by kernel_rfl)
theorem ty1 : TyOK Tryz.prog (.sl (.int .u8)) 22 := (tyB_spec (.sl (.int .u8))).1 22 (by kernel_rfl)
set_option maxRecDepth 100000 in
theorem lifted (os : Os) (started : os.Started) (H : Type) (enc : TypeId × Value → H) :
    ReturnsInHanded {} Tryz.checked os 3 .any (fun w args => (Rows.fnMountSpec.pre enc Tryz.prog Tryz.f3 Rows.fnMountRow.domain false w args ∧ laidMetH Tryz.prog Rows.fnMountRow.laid w) ∧ sizedMet enc Tryz.prog Tryz.f3 (OpenSpec.ofChange Rows.fnMountSpec) false w args) (Rows.fnMountSpec.post enc Tryz.prog Tryz.f3 false true false false) := by
  refine returnsInHanded_of_change_and (C := Tryz.checked) (X := fun w _ => laidMetH Tryz.prog Rows.fnMountRow.laid w) (fun _ _ _ hh h => h.of_heap hh) own started (by kernel_rfl) Tryz.func3
    (ChangeSpec.witness_shaped (enc := enc) (C := Tryz.checked) (os := os) (X := fun w _ => laidMetH Tryz.prog Rows.fnMountRow.laid w) false (World.laidAll Tryz.prog os Rows.fnMountRow.laid) #[.slice none 0 0, .slice none 0 0] 8 (World.laidAll_os _ _ _)
      (World.shaped_of_ZipB (by kernel_rfl) (by kernel_rfl)) (by kernel_rfl) (by kernel_rfl) (by kernel_rfl)
      (by rw [MakeChecks.laidMetH_plain _ _ _ (by kernel_rfl)]; exact laidMet_laidAll _ (by kernel_rfl) (by kernel_rfl))) ?_
  intro W base args ds gs before hval0 hW hcnd hsz0 _ _
  have hval : ∀ (j : Nat) t v, Tryz.f3.params[j]? = some t → args[j]? = some v → Value.okWide Tryz.prog W .any base t v := hval0
  have hW' := hW
  obtain ⟨p, q, hA0, hV, rfl, hfz, hnd⟩ := hW
  have hA : DataW.TrodAll enc Tryz.prog W 0 (fun _ => true) true Tryz.f3.params.toList args.toList ds p := hA0
  rw [Tryz.params3] at hA hval
  obtain ⟨v0, vs0, d0, ds0, p0, q0, hargs, rfl, rfl, h0, r0⟩ := trodAll_cons hA
  obtain ⟨v1, vs1, d1, ds1, p1, q1, rfl, rfl, rfl, h1, r1⟩ := trodAll_cons r0
  obtain ⟨rfl, rfl, rfl⟩ := trodAll_nil r1
  obtain rfl : args = #[v0, v1] := by cases args; simp_all
  obtain ⟨rfl, rfl⟩ := trodVars_none hV
  have k0 := h0
  have lt0 : ∀ x ∈ p0, x.block < W.heap.size := by obtain ⟨m, hm⟩ := k0; exact DataW.trod_lt m _ _ _ hm
  obtain ⟨x0, hx0, ha0⟩ := arg_open (O := (· ∈ ([] : List Nat))) (by simp) (t := (.sl (.int .u8))) (by rfl) (by decide) ty0 (hval 0 22 v0 rfl rfl) h0
  have k1 := h1
  have lt1 : ∀ x ∈ p1, x.block < W.heap.size := by obtain ⟨m, hm⟩ := k1; exact DataW.trod_lt m _ _ _ hm
  obtain ⟨x1, hx1, ha1⟩ := arg_open (O := (· ∈ ([] : List Nat))) (by simp) (t := (.sl (.int .u8))) (by rfl) (by decide) ty1 (hval 1 22 v1 rfl rfl) h1
  obtain ⟨N, hN⟩ := law_FnMount x0 x1 hx0 hx1
  refine (law_calls (ts := [(.sl (.int .u8)), (.sl (.int .u8))]) (g_ed.con N) rfl rfl (x0, x1) true hN rfl [v0, v1] ⟨v0, _, _, _, [], [], rfl, rfl, rfl, ha0, ⟨v1, _, _, _, [], [], rfl, rfl, rfl, ha1, ⟨rfl, rfl, rfl⟩⟩⟩).mono fun e W' ⟨he, bel⟩ => ?_
  subst he
  exact ⟨_, rfl, _, _, _, [], _, [], hW', trodAll_mk1 (shut_bool Tryz.underlying4 _), (trodAll_cons_mk (Below.trod laidOut (by kernel_rfl) (of_decide_eq_true (by kernel_rfl)) k0 bel lt0) (trodAll_cons_mk (Below.trod laidOut (by kernel_rfl) (of_decide_eq_true (by kernel_rfl)) k1 bel lt1) trodAll_mk0)), rfl, bel.frame _, fun h => by cases h⟩
theorem over : Rows.fnMountRow.holds Tryz.pinned (OpenSpec.ofChange Rows.fnMountSpec) :=
  OpenClaim.holds_of_wide 3 Tryz.f3 rfl rfl rfl rfl rfl rfl rfl ⟨rfl, rfl, rfl, rfl, rfl⟩ rfl rfl rfl rfl rfl (by kernel_rfl) Tryz.func3 (by kernel_rfl)
    (of_decide_eq_true (by kernel_rfl)) (by unfold Func.isWrapper; first | (rw [if_pos (by decide +kernel)]; kernel_rfl) | (rw [if_neg (by decide +kernel)]; exact ⟨rfl, rfl⟩))
    (fun os started H enc _ => lifted os started H enc)
theorem proved : Rows.FnMountSaid := over
theorem card : Rows.FnMountCardSaid :=
  Claim7.holds_tied_plain_at .later [] [.data, .pinned] true (true, "a07aa097e6e5f536cde25c10065a29f77a92a1d4d0f792bd185073c69ed1c6fb") false proved (fun _ h => by cases h) (by kernel_rfl) (fun _ h => by cases h) fnMount_row_tie rfl ⟨rfl, rfl⟩ (by kernel_rfl) rfl
    (fun f fn hf hfn => by
      obtain rfl : f = 3 := Option.some.inj ((show Tryz.prog.funcNamed "loop.example/g00257/laws.FnMount" = some 3 by kernel_rfl).symm.trans hf) |>.symm
      obtain rfl : fn = Tryz.f3 := (Option.some.inj (Tryz.func3.symm.trans hfn)).symm
      exact ⟨by kernel_rfl, fun j t ht => by
        rw [Tryz.params3] at ht
        have hm : t ∈ [22, 22] := by simpa using Array.mem_of_getElem? ht
        have hall : ([22, 22].all fun u => !Tryz.prog.wantsStandIn u) = true := by kernel_rfl
        exact (show Tryz.prog.wantsStandIn t = false by simpa using List.all_eq_true.1 hall t hm)⟩)
    (by kernel_rfl)
#print axioms card
end Go.Proofs.YtimnollnngmjpaaGreatDoor.fnMount
namespace Go.Proofs.YtimnollnngmjpaaGreatDoor
theorem fnMount_holds : Rows.FnMountCardSaid := fnMount.card
end Go.Proofs.YtimnollnngmjpaaGreatDoor
