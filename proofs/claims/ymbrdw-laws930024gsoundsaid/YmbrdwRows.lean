/-
  No cell of these rows narrows 'for every input' (looked for: loops, veiled, ifaces, maps, wideKeys, modest, calm, conditions, laid).
  DERIVED. THE GIVEN ROWS OF THIS SEAT. 12 by the template 'for every input the law returns true; each argument reads behind the call as it read before'; 0 by the template 'total and deterministic' (their statements: YmbrdwTotals.lean).
  GIVEN WITH THE SEED: the statements are not yours to turn. If you find one false, say at which input.
  Laid BY PROGRAM, IN A SANDBOX (cutbox-rows.mjs): the forced cells as the released guide's own fill.sh prints them over the translation 4066d1c30382ac23… (all of the seat's roots in one cut). By AI agents, Wed Nov 11 2026. No macro, syntax, notation, axiom, sorry.
-/
import Derived.Test.YmbrdwChecked
import GoSem.Claim
import GoSem.ClaimJoined
import GoSem.ClaimMapViews
import Derived.JoinedTies
import Derived.KernelRfl
namespace Go.Proofs.Ymbrdw
/- THE CELL 'sum', in the pinned program and in every row, IS THE sha256 OF THE DUMP (.gsa) THAT YmbrdwProg.lean LOADS. Nothing in Lean hashes anything: it is a label: what it is worth is what the hold of that sum in a sandbox is worth. -/
noncomputable def Ydwm.pinned : Pinned := { name := "ymbrdw", sum := "4066d1c30382ac23b1f3e46ec8dca757e7c1892609db4a7e75aa7c28dc44d34d", checked := Ydwm.checked }
namespace Rows
def none {H : Type} : Left H := { results := [], args := [] }

/-- 'lru.LawS930024EEmpty': WHATEVER THE INPUT: true; the input reads as it did. -/
def lawS930024EEmptySpec : ChangeSpec := { name := "lawS930024EEmpty", fn := fun _ => fun
  | [d] => { results := [.lit (.bool true)], args := [d] }
  | _ => none }
def lawS930024EEmptyRow : OpenClaim := { program := "ymbrdw", sum := "4066d1c30382ac23b1f3e46ec8dca757e7c1892609db4a7e75aa7c28dc44d34d", func := "example.com/own/lru.LawS930024EEmpty", spec := "lawS930024EEmpty", apart := false }
def LawS930024EEmptySaid : Prop := lawS930024EEmptyRow.holds Ydwm.pinned (OpenSpec.ofChange lawS930024EEmptySpec)

/-- ITS FALSE NEIGHBOUR: 'it returns false'. Refute it at one input. -/
def lawS930024EEmptyWrong : ChangeSpec := { name := "lawS930024EEmpty", fn := fun _ => fun
  | [d] => { results := [.lit (.bool false)], args := [d] }
  | _ => none }
def LawS930024EEmptyWrongFalsely : Prop := lawS930024EEmptyRow.holds Ydwm.pinned (OpenSpec.ofChange lawS930024EEmptyWrong)

/-- 'lru.LawS930024EFresh': WHATEVER THE INPUT: true; the input reads as it did. -/
def lawS930024EFreshSpec : ChangeSpec := { name := "lawS930024EFresh", fn := fun _ => fun
  | [d1, d2, d3] => { results := [.lit (.bool true)], args := [d1, d2, d3] }
  | _ => none }
def lawS930024EFreshRow : OpenClaim := { program := "ymbrdw", sum := "4066d1c30382ac23b1f3e46ec8dca757e7c1892609db4a7e75aa7c28dc44d34d", func := "example.com/own/lru.LawS930024EFresh", spec := "lawS930024EFresh", apart := false }
def LawS930024EFreshSaid : Prop := lawS930024EFreshRow.holds Ydwm.pinned (OpenSpec.ofChange lawS930024EFreshSpec)

/-- ITS FALSE NEIGHBOUR: 'it returns false'. Refute it at one input. -/
def lawS930024EFreshWrong : ChangeSpec := { name := "lawS930024EFresh", fn := fun _ => fun
  | [d1, d2, d3] => { results := [.lit (.bool false)], args := [d1, d2, d3] }
  | _ => none }
def LawS930024EFreshWrongFalsely : Prop := lawS930024EFreshRow.holds Ydwm.pinned (OpenSpec.ofChange lawS930024EFreshWrong)

/-- 'lru.LawS930024ERestore': WHATEVER THE INPUT: true; the input reads as it did. -/
def lawS930024ERestoreSpec : ChangeSpec := { name := "lawS930024ERestore", fn := fun _ => fun
  | [d1, d2] => { results := [.lit (.bool true)], args := [d1, d2] }
  | _ => none }
def lawS930024ERestoreRow : OpenClaim := { program := "ymbrdw", sum := "4066d1c30382ac23b1f3e46ec8dca757e7c1892609db4a7e75aa7c28dc44d34d", func := "example.com/own/lru.LawS930024ERestore", spec := "lawS930024ERestore", apart := false }
def LawS930024ERestoreSaid : Prop := lawS930024ERestoreRow.holds Ydwm.pinned (OpenSpec.ofChange lawS930024ERestoreSpec)

/-- ITS FALSE NEIGHBOUR: 'it returns false'. Refute it at one input. -/
def lawS930024ERestoreWrong : ChangeSpec := { name := "lawS930024ERestore", fn := fun _ => fun
  | [d1, d2] => { results := [.lit (.bool false)], args := [d1, d2] }
  | _ => none }
def LawS930024ERestoreWrongFalsely : Prop := lawS930024ERestoreRow.holds Ydwm.pinned (OpenSpec.ofChange lawS930024ERestoreWrong)

/-- 'lru.LawS930024FBuild': WHATEVER THE INPUT: true; the input reads as it did. -/
def lawS930024FBuildSpec : ChangeSpec := { name := "lawS930024FBuild", fn := fun _ => fun
  | [d1, d2, d3, d4, d5, d6, d7] => { results := [.lit (.bool true)], args := [d1, d2, d3, d4, d5, d6, d7] }
  | _ => none }
def lawS930024FBuildRow : OpenClaim := { program := "ymbrdw", sum := "4066d1c30382ac23b1f3e46ec8dca757e7c1892609db4a7e75aa7c28dc44d34d", func := "example.com/own/lru.LawS930024FBuild", spec := "lawS930024FBuild", apart := false }
def LawS930024FBuildSaid : Prop := lawS930024FBuildRow.holds Ydwm.pinned (OpenSpec.ofChange lawS930024FBuildSpec)

/-- ITS FALSE NEIGHBOUR: 'it returns false'. Refute it at one input. -/
def lawS930024FBuildWrong : ChangeSpec := { name := "lawS930024FBuild", fn := fun _ => fun
  | [d1, d2, d3, d4, d5, d6, d7] => { results := [.lit (.bool false)], args := [d1, d2, d3, d4, d5, d6, d7] }
  | _ => none }
def LawS930024FBuildWrongFalsely : Prop := lawS930024FBuildRow.holds Ydwm.pinned (OpenSpec.ofChange lawS930024FBuildWrong)

/-- 'lru.LawS930024FStep': WHATEVER THE INPUT: true; the input reads as it did. -/
def lawS930024FStepSpec : ChangeSpec := { name := "lawS930024FStep", fn := fun _ => fun
  | [d1, d2, d3, d4, d5, d6, d7, d8] => { results := [.lit (.bool true)], args := [d1, d2, d3, d4, d5, d6, d7, d8] }
  | _ => none }
def lawS930024FStepRow : OpenClaim := { program := "ymbrdw", sum := "4066d1c30382ac23b1f3e46ec8dca757e7c1892609db4a7e75aa7c28dc44d34d", func := "example.com/own/lru.LawS930024FStep", spec := "lawS930024FStep", apart := false }
def LawS930024FStepSaid : Prop := lawS930024FStepRow.holds Ydwm.pinned (OpenSpec.ofChange lawS930024FStepSpec)

/-- ITS FALSE NEIGHBOUR: 'it returns false'. Refute it at one input. -/
def lawS930024FStepWrong : ChangeSpec := { name := "lawS930024FStep", fn := fun _ => fun
  | [d1, d2, d3, d4, d5, d6, d7, d8] => { results := [.lit (.bool false)], args := [d1, d2, d3, d4, d5, d6, d7, d8] }
  | _ => none }
def LawS930024FStepWrongFalsely : Prop := lawS930024FStepRow.holds Ydwm.pinned (OpenSpec.ofChange lawS930024FStepWrong)

/-- 'lru.LawS930024FMove': WHATEVER THE INPUT: true; the input reads as it did. -/
def lawS930024FMoveSpec : ChangeSpec := { name := "lawS930024FMove", fn := fun _ => fun
  | [d1, d2, d3] => { results := [.lit (.bool true)], args := [d1, d2, d3] }
  | _ => none }
def lawS930024FMoveRow : OpenClaim := { program := "ymbrdw", sum := "4066d1c30382ac23b1f3e46ec8dca757e7c1892609db4a7e75aa7c28dc44d34d", func := "example.com/own/lru.LawS930024FMove", spec := "lawS930024FMove", apart := false }
def LawS930024FMoveSaid : Prop := lawS930024FMoveRow.holds Ydwm.pinned (OpenSpec.ofChange lawS930024FMoveSpec)

/-- ITS FALSE NEIGHBOUR: 'it returns false'. Refute it at one input. -/
def lawS930024FMoveWrong : ChangeSpec := { name := "lawS930024FMove", fn := fun _ => fun
  | [d1, d2, d3] => { results := [.lit (.bool false)], args := [d1, d2, d3] }
  | _ => none }
def LawS930024FMoveWrongFalsely : Prop := lawS930024FMoveRow.holds Ydwm.pinned (OpenSpec.ofChange lawS930024FMoveWrong)

/-- 'lru.LawS930024GStep': WHATEVER THE INPUT: true; the input reads as it did. -/
def lawS930024GStepSpec : ChangeSpec := { name := "lawS930024GStep", fn := fun _ => fun
  | [d1, d2, d3, d4] => { results := [.lit (.bool true)], args := [d1, d2, d3, d4] }
  | _ => none }
def lawS930024GStepRow : OpenClaim := { program := "ymbrdw", sum := "4066d1c30382ac23b1f3e46ec8dca757e7c1892609db4a7e75aa7c28dc44d34d", func := "example.com/own/lru.LawS930024GStep", spec := "lawS930024GStep", apart := false }
def LawS930024GStepSaid : Prop := lawS930024GStepRow.holds Ydwm.pinned (OpenSpec.ofChange lawS930024GStepSpec)

/-- ITS FALSE NEIGHBOUR: 'it returns false'. Refute it at one input. -/
def lawS930024GStepWrong : ChangeSpec := { name := "lawS930024GStep", fn := fun _ => fun
  | [d1, d2, d3, d4] => { results := [.lit (.bool false)], args := [d1, d2, d3, d4] }
  | _ => none }
def LawS930024GStepWrongFalsely : Prop := lawS930024GStepRow.holds Ydwm.pinned (OpenSpec.ofChange lawS930024GStepWrong)

/-- 'lru.LawS930024GRecent': WHATEVER THE INPUT: true; the input reads as it did. -/
def lawS930024GRecentSpec : ChangeSpec := { name := "lawS930024GRecent", fn := fun _ => fun
  | [d1, d2] => { results := [.lit (.bool true)], args := [d1, d2] }
  | _ => none }
def lawS930024GRecentRow : OpenClaim := { program := "ymbrdw", sum := "4066d1c30382ac23b1f3e46ec8dca757e7c1892609db4a7e75aa7c28dc44d34d", func := "example.com/own/lru.LawS930024GRecent", spec := "lawS930024GRecent", apart := false }
def LawS930024GRecentSaid : Prop := lawS930024GRecentRow.holds Ydwm.pinned (OpenSpec.ofChange lawS930024GRecentSpec)

/-- ITS FALSE NEIGHBOUR: 'it returns false'. Refute it at one input. -/
def lawS930024GRecentWrong : ChangeSpec := { name := "lawS930024GRecent", fn := fun _ => fun
  | [d1, d2] => { results := [.lit (.bool false)], args := [d1, d2] }
  | _ => none }
def LawS930024GRecentWrongFalsely : Prop := lawS930024GRecentRow.holds Ydwm.pinned (OpenSpec.ofChange lawS930024GRecentWrong)

/-- 'lru.LawS930024GSound': WHATEVER THE INPUT: true; the input reads as it did. -/
def lawS930024GSoundSpec : ChangeSpec := { name := "lawS930024GSound", fn := fun _ => fun
  | [d1, d2, d3, d4] => { results := [.lit (.bool true)], args := [d1, d2, d3, d4] }
  | _ => none }
def lawS930024GSoundRow : OpenClaim := { program := "ymbrdw", sum := "4066d1c30382ac23b1f3e46ec8dca757e7c1892609db4a7e75aa7c28dc44d34d", func := "example.com/own/lru.LawS930024GSound", spec := "lawS930024GSound", apart := false }
def LawS930024GSoundSaid : Prop := lawS930024GSoundRow.holds Ydwm.pinned (OpenSpec.ofChange lawS930024GSoundSpec)

/-- ITS FALSE NEIGHBOUR: 'it returns false'. Refute it at one input. -/
def lawS930024GSoundWrong : ChangeSpec := { name := "lawS930024GSound", fn := fun _ => fun
  | [d1, d2, d3, d4] => { results := [.lit (.bool false)], args := [d1, d2, d3, d4] }
  | _ => none }
def LawS930024GSoundWrongFalsely : Prop := lawS930024GSoundRow.holds Ydwm.pinned (OpenSpec.ofChange lawS930024GSoundWrong)

/-- 'lru.LawS930024HOrder': WHATEVER THE INPUT: true; the input reads as it did. -/
def lawS930024HOrderSpec : ChangeSpec := { name := "lawS930024HOrder", fn := fun _ => fun
  | [d1, d2] => { results := [.lit (.bool true)], args := [d1, d2] }
  | _ => none }
def lawS930024HOrderRow : OpenClaim := { program := "ymbrdw", sum := "4066d1c30382ac23b1f3e46ec8dca757e7c1892609db4a7e75aa7c28dc44d34d", func := "example.com/own/lru.LawS930024HOrder", spec := "lawS930024HOrder", apart := false }
def LawS930024HOrderSaid : Prop := lawS930024HOrderRow.holds Ydwm.pinned (OpenSpec.ofChange lawS930024HOrderSpec)

/-- ITS FALSE NEIGHBOUR: 'it returns false'. Refute it at one input. -/
def lawS930024HOrderWrong : ChangeSpec := { name := "lawS930024HOrder", fn := fun _ => fun
  | [d1, d2] => { results := [.lit (.bool false)], args := [d1, d2] }
  | _ => none }
def LawS930024HOrderWrongFalsely : Prop := lawS930024HOrderRow.holds Ydwm.pinned (OpenSpec.ofChange lawS930024HOrderWrong)

/-- 'lru.LawS930024HDrain': WHATEVER THE INPUT: true; the input reads as it did. -/
def lawS930024HDrainSpec : ChangeSpec := { name := "lawS930024HDrain", fn := fun _ => fun
  | [d1, d2] => { results := [.lit (.bool true)], args := [d1, d2] }
  | _ => none }
def lawS930024HDrainRow : OpenClaim := { program := "ymbrdw", sum := "4066d1c30382ac23b1f3e46ec8dca757e7c1892609db4a7e75aa7c28dc44d34d", func := "example.com/own/lru.LawS930024HDrain", spec := "lawS930024HDrain", apart := false }
def LawS930024HDrainSaid : Prop := lawS930024HDrainRow.holds Ydwm.pinned (OpenSpec.ofChange lawS930024HDrainSpec)

/-- ITS FALSE NEIGHBOUR: 'it returns false'. Refute it at one input. -/
def lawS930024HDrainWrong : ChangeSpec := { name := "lawS930024HDrain", fn := fun _ => fun
  | [d1, d2] => { results := [.lit (.bool false)], args := [d1, d2] }
  | _ => none }
def LawS930024HDrainWrongFalsely : Prop := lawS930024HDrainRow.holds Ydwm.pinned (OpenSpec.ofChange lawS930024HDrainWrong)

/-- 'lru.LawS930024HSlots': WHATEVER THE INPUT: true; the input reads as it did. -/
def lawS930024HSlotsSpec : ChangeSpec := { name := "lawS930024HSlots", fn := fun _ => fun
  | [d1, d2] => { results := [.lit (.bool true)], args := [d1, d2] }
  | _ => none }
def lawS930024HSlotsRow : OpenClaim := { program := "ymbrdw", sum := "4066d1c30382ac23b1f3e46ec8dca757e7c1892609db4a7e75aa7c28dc44d34d", func := "example.com/own/lru.LawS930024HSlots", spec := "lawS930024HSlots", apart := false }
def LawS930024HSlotsSaid : Prop := lawS930024HSlotsRow.holds Ydwm.pinned (OpenSpec.ofChange lawS930024HSlotsSpec)

/-- ITS FALSE NEIGHBOUR: 'it returns false'. Refute it at one input. -/
def lawS930024HSlotsWrong : ChangeSpec := { name := "lawS930024HSlots", fn := fun _ => fun
  | [d1, d2] => { results := [.lit (.bool false)], args := [d1, d2] }
  | _ => none }
def LawS930024HSlotsWrongFalsely : Prop := lawS930024HSlotsRow.holds Ydwm.pinned (OpenSpec.ofChange lawS930024HSlotsWrong)

end Rows
end Go.Proofs.Ymbrdw
