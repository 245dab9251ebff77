/-
  No cell of these rows narrows 'for every input' (looked for: loops, veiled, ifaces, maps, wideKeys, modest, calm, conditions, laid).
  DERIVED. THE GIVEN ROWS OF THIS SEAT. 12 by the template 'for every input the law returns true; each argument reads behind the call as it read before'; 0 by the template 'total and deterministic' (their statements: YmbrdxTotals.lean).
  GIVEN WITH THE SEED: the statements are not yours to turn. If you find one false, say at which input.
  Laid BY PROGRAM, IN A SANDBOX (cutbox-rows.mjs): the forced cells as the released guide's own fill.sh prints them over the translation 224298cf9a1f2728… (all of the seat's roots in one cut). By AI agents, Wed Nov 11 2026. No macro, syntax, notation, axiom, sorry.
-/
import Derived.Test.YmbrdxChecked
import GoSem.Claim
import GoSem.ClaimJoined
import GoSem.ClaimMapViews
import Derived.JoinedTies
import Derived.KernelRfl
namespace Go.Proofs.Ymbrdx
/- THE CELL 'sum', in the pinned program and in every row, IS THE sha256 OF THE DUMP (.gsa) THAT YmbrdxProg.lean LOADS. Nothing in Lean hashes anything: it is a label: what it is worth is what the hold of that sum in a sandbox is worth. -/
noncomputable def Ydxm.pinned : Pinned := { name := "ymbrdx", sum := "224298cf9a1f2728cfa6cec8dbc0191b220d35e2c2227c0523c93fb8d998e1d2", checked := Ydxm.checked }
namespace Rows
def none {H : Type} : Left H := { results := [], args := [] }

/-- 'lru.LawS930024IChain': WHATEVER THE INPUT: true; the input reads as it did. -/
def lawS930024IChainSpec : ChangeSpec := { name := "lawS930024IChain", fn := fun _ => fun
  | [d1, d2, d3] => { results := [.lit (.bool true)], args := [d1, d2, d3] }
  | _ => none }
def lawS930024IChainRow : OpenClaim := { program := "ymbrdx", sum := "224298cf9a1f2728cfa6cec8dbc0191b220d35e2c2227c0523c93fb8d998e1d2", func := "example.com/own/lru.LawS930024IChain", spec := "lawS930024IChain", apart := false }
def LawS930024IChainSaid : Prop := lawS930024IChainRow.holds Ydxm.pinned (OpenSpec.ofChange lawS930024IChainSpec)

/-- ITS FALSE NEIGHBOUR: 'it returns false'. Refute it at one input. -/
def lawS930024IChainWrong : ChangeSpec := { name := "lawS930024IChain", fn := fun _ => fun
  | [d1, d2, d3] => { results := [.lit (.bool false)], args := [d1, d2, d3] }
  | _ => none }
def LawS930024IChainWrongFalsely : Prop := lawS930024IChainRow.holds Ydxm.pinned (OpenSpec.ofChange lawS930024IChainWrong)

/-- 'lru.LawS930024IScript': WHATEVER THE INPUT: true; the input reads as it did. -/
def lawS930024IScriptSpec : ChangeSpec := { name := "lawS930024IScript", fn := fun _ => fun
  | [d1, d2] => { results := [.lit (.bool true)], args := [d1, d2] }
  | _ => none }
def lawS930024IScriptRow : OpenClaim := { program := "ymbrdx", sum := "224298cf9a1f2728cfa6cec8dbc0191b220d35e2c2227c0523c93fb8d998e1d2", func := "example.com/own/lru.LawS930024IScript", spec := "lawS930024IScript", apart := false }
def LawS930024IScriptSaid : Prop := lawS930024IScriptRow.holds Ydxm.pinned (OpenSpec.ofChange lawS930024IScriptSpec)

/-- ITS FALSE NEIGHBOUR: 'it returns false'. Refute it at one input. -/
def lawS930024IScriptWrong : ChangeSpec := { name := "lawS930024IScript", fn := fun _ => fun
  | [d1, d2] => { results := [.lit (.bool false)], args := [d1, d2] }
  | _ => none }
def LawS930024IScriptWrongFalsely : Prop := lawS930024IScriptRow.holds Ydxm.pinned (OpenSpec.ofChange lawS930024IScriptWrong)

/-- 'lru.LawS930024IRestore': WHATEVER THE INPUT: true; the input reads as it did. -/
def lawS930024IRestoreSpec : ChangeSpec := { name := "lawS930024IRestore", fn := fun _ => fun
  | [d1, d2] => { results := [.lit (.bool true)], args := [d1, d2] }
  | _ => none }
def lawS930024IRestoreRow : OpenClaim := { program := "ymbrdx", sum := "224298cf9a1f2728cfa6cec8dbc0191b220d35e2c2227c0523c93fb8d998e1d2", func := "example.com/own/lru.LawS930024IRestore", spec := "lawS930024IRestore", apart := false }
def LawS930024IRestoreSaid : Prop := lawS930024IRestoreRow.holds Ydxm.pinned (OpenSpec.ofChange lawS930024IRestoreSpec)

/-- ITS FALSE NEIGHBOUR: 'it returns false'. Refute it at one input. -/
def lawS930024IRestoreWrong : ChangeSpec := { name := "lawS930024IRestore", fn := fun _ => fun
  | [d1, d2] => { results := [.lit (.bool false)], args := [d1, d2] }
  | _ => none }
def LawS930024IRestoreWrongFalsely : Prop := lawS930024IRestoreRow.holds Ydxm.pinned (OpenSpec.ofChange lawS930024IRestoreWrong)

/-- 'lru.LawS930024JSlot': WHATEVER THE INPUT: true; the input reads as it did. -/
def lawS930024JSlotSpec : ChangeSpec := { name := "lawS930024JSlot", fn := fun _ => fun
  | [d1, d2, d3, d4, d5, d6, d7] => { results := [.lit (.bool true)], args := [d1, d2, d3, d4, d5, d6, d7] }
  | _ => none }
def lawS930024JSlotRow : OpenClaim := { program := "ymbrdx", sum := "224298cf9a1f2728cfa6cec8dbc0191b220d35e2c2227c0523c93fb8d998e1d2", func := "example.com/own/lru.LawS930024JSlot", spec := "lawS930024JSlot", apart := false }
def LawS930024JSlotSaid : Prop := lawS930024JSlotRow.holds Ydxm.pinned (OpenSpec.ofChange lawS930024JSlotSpec)

/-- ITS FALSE NEIGHBOUR: 'it returns false'. Refute it at one input. -/
def lawS930024JSlotWrong : ChangeSpec := { name := "lawS930024JSlot", fn := fun _ => fun
  | [d1, d2, d3, d4, d5, d6, d7] => { results := [.lit (.bool false)], args := [d1, d2, d3, d4, d5, d6, d7] }
  | _ => none }
def LawS930024JSlotWrongFalsely : Prop := lawS930024JSlotRow.holds Ydxm.pinned (OpenSpec.ofChange lawS930024JSlotWrong)

/-- 'lru.LawS930024JKeeps': WHATEVER THE INPUT: true; the input reads as it did. -/
def lawS930024JKeepsSpec : ChangeSpec := { name := "lawS930024JKeeps", fn := fun _ => fun
  | [d1, d2, d3, d4, d5] => { results := [.lit (.bool true)], args := [d1, d2, d3, d4, d5] }
  | _ => none }
def lawS930024JKeepsRow : OpenClaim := { program := "ymbrdx", sum := "224298cf9a1f2728cfa6cec8dbc0191b220d35e2c2227c0523c93fb8d998e1d2", func := "example.com/own/lru.LawS930024JKeeps", spec := "lawS930024JKeeps", apart := false }
def LawS930024JKeepsSaid : Prop := lawS930024JKeepsRow.holds Ydxm.pinned (OpenSpec.ofChange lawS930024JKeepsSpec)

/-- ITS FALSE NEIGHBOUR: 'it returns false'. Refute it at one input. -/
def lawS930024JKeepsWrong : ChangeSpec := { name := "lawS930024JKeeps", fn := fun _ => fun
  | [d1, d2, d3, d4, d5] => { results := [.lit (.bool false)], args := [d1, d2, d3, d4, d5] }
  | _ => none }
def LawS930024JKeepsWrongFalsely : Prop := lawS930024JKeepsRow.holds Ydxm.pinned (OpenSpec.ofChange lawS930024JKeepsWrong)

/-- 'lru.LawS930024JScript': WHATEVER THE INPUT: true; the input reads as it did. -/
def lawS930024JScriptSpec : ChangeSpec := { name := "lawS930024JScript", fn := fun _ => fun
  | [d1, d2, d3] => { results := [.lit (.bool true)], args := [d1, d2, d3] }
  | _ => none }
def lawS930024JScriptRow : OpenClaim := { program := "ymbrdx", sum := "224298cf9a1f2728cfa6cec8dbc0191b220d35e2c2227c0523c93fb8d998e1d2", func := "example.com/own/lru.LawS930024JScript", spec := "lawS930024JScript", apart := false }
def LawS930024JScriptSaid : Prop := lawS930024JScriptRow.holds Ydxm.pinned (OpenSpec.ofChange lawS930024JScriptSpec)

/-- ITS FALSE NEIGHBOUR: 'it returns false'. Refute it at one input. -/
def lawS930024JScriptWrong : ChangeSpec := { name := "lawS930024JScript", fn := fun _ => fun
  | [d1, d2, d3] => { results := [.lit (.bool false)], args := [d1, d2, d3] }
  | _ => none }
def LawS930024JScriptWrongFalsely : Prop := lawS930024JScriptRow.holds Ydxm.pinned (OpenSpec.ofChange lawS930024JScriptWrong)

/-- 'lru.LawS930024KOrder': WHATEVER THE INPUT: true; the input reads as it did. -/
def lawS930024KOrderSpec : ChangeSpec := { name := "lawS930024KOrder", fn := fun _ => fun
  | [d1, d2, d3, d4] => { results := [.lit (.bool true)], args := [d1, d2, d3, d4] }
  | _ => none }
def lawS930024KOrderRow : OpenClaim := { program := "ymbrdx", sum := "224298cf9a1f2728cfa6cec8dbc0191b220d35e2c2227c0523c93fb8d998e1d2", func := "example.com/own/lru.LawS930024KOrder", spec := "lawS930024KOrder", apart := false }
def LawS930024KOrderSaid : Prop := lawS930024KOrderRow.holds Ydxm.pinned (OpenSpec.ofChange lawS930024KOrderSpec)

/-- ITS FALSE NEIGHBOUR: 'it returns false'. Refute it at one input. -/
def lawS930024KOrderWrong : ChangeSpec := { name := "lawS930024KOrder", fn := fun _ => fun
  | [d1, d2, d3, d4] => { results := [.lit (.bool false)], args := [d1, d2, d3, d4] }
  | _ => none }
def LawS930024KOrderWrongFalsely : Prop := lawS930024KOrderRow.holds Ydxm.pinned (OpenSpec.ofChange lawS930024KOrderWrong)

/-- 'lru.LawS930024KRestored': WHATEVER THE INPUT: true; the input reads as it did. -/
def lawS930024KRestoredSpec : ChangeSpec := { name := "lawS930024KRestored", fn := fun _ => fun
  | [d1, d2, d3, d4] => { results := [.lit (.bool true)], args := [d1, d2, d3, d4] }
  | _ => none }
def lawS930024KRestoredRow : OpenClaim := { program := "ymbrdx", sum := "224298cf9a1f2728cfa6cec8dbc0191b220d35e2c2227c0523c93fb8d998e1d2", func := "example.com/own/lru.LawS930024KRestored", spec := "lawS930024KRestored", apart := false }
def LawS930024KRestoredSaid : Prop := lawS930024KRestoredRow.holds Ydxm.pinned (OpenSpec.ofChange lawS930024KRestoredSpec)

/-- ITS FALSE NEIGHBOUR: 'it returns false'. Refute it at one input. -/
def lawS930024KRestoredWrong : ChangeSpec := { name := "lawS930024KRestored", fn := fun _ => fun
  | [d1, d2, d3, d4] => { results := [.lit (.bool false)], args := [d1, d2, d3, d4] }
  | _ => none }
def LawS930024KRestoredWrongFalsely : Prop := lawS930024KRestoredRow.holds Ydxm.pinned (OpenSpec.ofChange lawS930024KRestoredWrong)

/-- 'lru.LawS930024KLists': WHATEVER THE INPUT: true; the input reads as it did. -/
def lawS930024KListsSpec : ChangeSpec := { name := "lawS930024KLists", fn := fun _ => fun
  | [d1, d2, d3, d4, d5, d6] => { results := [.lit (.bool true)], args := [d1, d2, d3, d4, d5, d6] }
  | _ => none }
def lawS930024KListsRow : OpenClaim := { program := "ymbrdx", sum := "224298cf9a1f2728cfa6cec8dbc0191b220d35e2c2227c0523c93fb8d998e1d2", func := "example.com/own/lru.LawS930024KLists", spec := "lawS930024KLists", apart := false }
def LawS930024KListsSaid : Prop := lawS930024KListsRow.holds Ydxm.pinned (OpenSpec.ofChange lawS930024KListsSpec)

/-- ITS FALSE NEIGHBOUR: 'it returns false'. Refute it at one input. -/
def lawS930024KListsWrong : ChangeSpec := { name := "lawS930024KLists", fn := fun _ => fun
  | [d1, d2, d3, d4, d5, d6] => { results := [.lit (.bool false)], args := [d1, d2, d3, d4, d5, d6] }
  | _ => none }
def LawS930024KListsWrongFalsely : Prop := lawS930024KListsRow.holds Ydxm.pinned (OpenSpec.ofChange lawS930024KListsWrong)

/-- 'lru.LawS930024LPuts': WHATEVER THE INPUT: true; the input reads as it did. -/
def lawS930024LPutsSpec : ChangeSpec := { name := "lawS930024LPuts", fn := fun _ => fun
  | [d1, d2, d3, d4] => { results := [.lit (.bool true)], args := [d1, d2, d3, d4] }
  | _ => none }
def lawS930024LPutsRow : OpenClaim := { program := "ymbrdx", sum := "224298cf9a1f2728cfa6cec8dbc0191b220d35e2c2227c0523c93fb8d998e1d2", func := "example.com/own/lru.LawS930024LPuts", spec := "lawS930024LPuts", apart := false }
def LawS930024LPutsSaid : Prop := lawS930024LPutsRow.holds Ydxm.pinned (OpenSpec.ofChange lawS930024LPutsSpec)

/-- ITS FALSE NEIGHBOUR: 'it returns false'. Refute it at one input. -/
def lawS930024LPutsWrong : ChangeSpec := { name := "lawS930024LPuts", fn := fun _ => fun
  | [d1, d2, d3, d4] => { results := [.lit (.bool false)], args := [d1, d2, d3, d4] }
  | _ => none }
def LawS930024LPutsWrongFalsely : Prop := lawS930024LPutsRow.holds Ydxm.pinned (OpenSpec.ofChange lawS930024LPutsWrong)

/-- 'lru.LawS930024LScript': WHATEVER THE INPUT: true; the input reads as it did. -/
def lawS930024LScriptSpec : ChangeSpec := { name := "lawS930024LScript", fn := fun _ => fun
  | [d1, d2, d3, d4] => { results := [.lit (.bool true)], args := [d1, d2, d3, d4] }
  | _ => none }
def lawS930024LScriptRow : OpenClaim := { program := "ymbrdx", sum := "224298cf9a1f2728cfa6cec8dbc0191b220d35e2c2227c0523c93fb8d998e1d2", func := "example.com/own/lru.LawS930024LScript", spec := "lawS930024LScript", apart := false }
def LawS930024LScriptSaid : Prop := lawS930024LScriptRow.holds Ydxm.pinned (OpenSpec.ofChange lawS930024LScriptSpec)

/-- ITS FALSE NEIGHBOUR: 'it returns false'. Refute it at one input. -/
def lawS930024LScriptWrong : ChangeSpec := { name := "lawS930024LScript", fn := fun _ => fun
  | [d1, d2, d3, d4] => { results := [.lit (.bool false)], args := [d1, d2, d3, d4] }
  | _ => none }
def LawS930024LScriptWrongFalsely : Prop := lawS930024LScriptRow.holds Ydxm.pinned (OpenSpec.ofChange lawS930024LScriptWrong)

/-- 'lru.LawS930024LKeeps': WHATEVER THE INPUT: true; the input reads as it did. -/
def lawS930024LKeepsSpec : ChangeSpec := { name := "lawS930024LKeeps", fn := fun _ => fun
  | [d1, d2, d3, d4] => { results := [.lit (.bool true)], args := [d1, d2, d3, d4] }
  | _ => none }
def lawS930024LKeepsRow : OpenClaim := { program := "ymbrdx", sum := "224298cf9a1f2728cfa6cec8dbc0191b220d35e2c2227c0523c93fb8d998e1d2", func := "example.com/own/lru.LawS930024LKeeps", spec := "lawS930024LKeeps", apart := false }
def LawS930024LKeepsSaid : Prop := lawS930024LKeepsRow.holds Ydxm.pinned (OpenSpec.ofChange lawS930024LKeepsSpec)

/-- ITS FALSE NEIGHBOUR: 'it returns false'. Refute it at one input. -/
def lawS930024LKeepsWrong : ChangeSpec := { name := "lawS930024LKeeps", fn := fun _ => fun
  | [d1, d2, d3, d4] => { results := [.lit (.bool false)], args := [d1, d2, d3, d4] }
  | _ => none }
def LawS930024LKeepsWrongFalsely : Prop := lawS930024LKeepsRow.holds Ydxm.pinned (OpenSpec.ofChange lawS930024LKeepsWrong)

end Rows
end Go.Proofs.Ymbrdx
