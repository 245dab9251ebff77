/-
  No cell of these rows narrows 'for every input' (looked for: loops, veiled, ifaces, maps, wideKeys, modest, calm, conditions, laid).
  DERIVED. THE GIVEN ROWS OF THIS SEAT. 12 by the template 'for every input the law returns true; each argument reads behind the call as it read before'; 0 by the template 'total and deterministic' (their statements: YmbrdvTotals.lean).
  GIVEN WITH THE SEED: the statements are not yours to turn. If you find one false, say at which input.
  Laid BY PROGRAM, IN A SANDBOX (cutbox-rows.mjs): the forced cells as the released guide's own fill.sh prints them over the translation d84eb0f7de5bdc20… (all of the seat's roots in one cut). By AI agents, Wed Nov 11 2026. No macro, syntax, notation, axiom, sorry.
-/
import Derived.Test.YmbrdvChecked
import GoSem.Claim
import GoSem.ClaimJoined
import GoSem.ClaimMapViews
import Derived.JoinedTies
import Derived.KernelRfl
namespace Go.Proofs.Ymbrdv
/- THE CELL 'sum', in the pinned program and in every row, IS THE sha256 OF THE DUMP (.gsa) THAT YmbrdvProg.lean LOADS. Nothing in Lean hashes anything: it is a label: what it is worth is what the hold of that sum in a sandbox is worth. -/
noncomputable def Ydvm.pinned : Pinned := { name := "ymbrdv", sum := "d84eb0f7de5bdc202224018f2adfcbe9e1785ef321bf89c51e68c59539b6b3b1", checked := Ydvm.checked }
namespace Rows
def none {H : Type} : Left H := { results := [], args := [] }

/-- 'lru.LawS930024ARest': WHATEVER THE INPUT: true; the input reads as it did. -/
def lawS930024ARestSpec : ChangeSpec := { name := "lawS930024ARest", fn := fun _ => fun
  | [d1, d2] => { results := [.lit (.bool true)], args := [d1, d2] }
  | _ => none }
def lawS930024ARestRow : OpenClaim := { program := "ymbrdv", sum := "d84eb0f7de5bdc202224018f2adfcbe9e1785ef321bf89c51e68c59539b6b3b1", func := "example.com/own/lru.LawS930024ARest", spec := "lawS930024ARest", apart := false }
def LawS930024ARestSaid : Prop := lawS930024ARestRow.holds Ydvm.pinned (OpenSpec.ofChange lawS930024ARestSpec)

/-- ITS FALSE NEIGHBOUR: 'it returns false'. Refute it at one input. -/
def lawS930024ARestWrong : ChangeSpec := { name := "lawS930024ARest", fn := fun _ => fun
  | [d1, d2] => { results := [.lit (.bool false)], args := [d1, d2] }
  | _ => none }
def LawS930024ARestWrongFalsely : Prop := lawS930024ARestRow.holds Ydvm.pinned (OpenSpec.ofChange lawS930024ARestWrong)

/-- 'lru.LawS930024AUndo': WHATEVER THE INPUT: true; the input reads as it did. -/
def lawS930024AUndoSpec : ChangeSpec := { name := "lawS930024AUndo", fn := fun _ => fun
  | [d] => { results := [.lit (.bool true)], args := [d] }
  | _ => none }
def lawS930024AUndoRow : OpenClaim := { program := "ymbrdv", sum := "d84eb0f7de5bdc202224018f2adfcbe9e1785ef321bf89c51e68c59539b6b3b1", func := "example.com/own/lru.LawS930024AUndo", spec := "lawS930024AUndo", apart := false }
def LawS930024AUndoSaid : Prop := lawS930024AUndoRow.holds Ydvm.pinned (OpenSpec.ofChange lawS930024AUndoSpec)

/-- ITS FALSE NEIGHBOUR: 'it returns false'. Refute it at one input. -/
def lawS930024AUndoWrong : ChangeSpec := { name := "lawS930024AUndo", fn := fun _ => fun
  | [d] => { results := [.lit (.bool false)], args := [d] }
  | _ => none }
def LawS930024AUndoWrongFalsely : Prop := lawS930024AUndoRow.holds Ydvm.pinned (OpenSpec.ofChange lawS930024AUndoWrong)

/-- 'lru.LawS930024ADrain': WHATEVER THE INPUT: true; the input reads as it did. -/
def lawS930024ADrainSpec : ChangeSpec := { name := "lawS930024ADrain", fn := fun _ => fun
  | [d1, d2] => { results := [.lit (.bool true)], args := [d1, d2] }
  | _ => none }
def lawS930024ADrainRow : OpenClaim := { program := "ymbrdv", sum := "d84eb0f7de5bdc202224018f2adfcbe9e1785ef321bf89c51e68c59539b6b3b1", func := "example.com/own/lru.LawS930024ADrain", spec := "lawS930024ADrain", apart := false }
def LawS930024ADrainSaid : Prop := lawS930024ADrainRow.holds Ydvm.pinned (OpenSpec.ofChange lawS930024ADrainSpec)

/-- ITS FALSE NEIGHBOUR: 'it returns false'. Refute it at one input. -/
def lawS930024ADrainWrong : ChangeSpec := { name := "lawS930024ADrain", fn := fun _ => fun
  | [d1, d2] => { results := [.lit (.bool false)], args := [d1, d2] }
  | _ => none }
def LawS930024ADrainWrongFalsely : Prop := lawS930024ADrainRow.holds Ydvm.pinned (OpenSpec.ofChange lawS930024ADrainWrong)

/-- 'lru.LawS930024BExact': WHATEVER THE INPUT: true; the input reads as it did. -/
def lawS930024BExactSpec : ChangeSpec := { name := "lawS930024BExact", fn := fun _ => fun
  | [d1, d2, d3] => { results := [.lit (.bool true)], args := [d1, d2, d3] }
  | _ => none }
def lawS930024BExactRow : OpenClaim := { program := "ymbrdv", sum := "d84eb0f7de5bdc202224018f2adfcbe9e1785ef321bf89c51e68c59539b6b3b1", func := "example.com/own/lru.LawS930024BExact", spec := "lawS930024BExact", apart := false }
def LawS930024BExactSaid : Prop := lawS930024BExactRow.holds Ydvm.pinned (OpenSpec.ofChange lawS930024BExactSpec)

/-- ITS FALSE NEIGHBOUR: 'it returns false'. Refute it at one input. -/
def lawS930024BExactWrong : ChangeSpec := { name := "lawS930024BExact", fn := fun _ => fun
  | [d1, d2, d3] => { results := [.lit (.bool false)], args := [d1, d2, d3] }
  | _ => none }
def LawS930024BExactWrongFalsely : Prop := lawS930024BExactRow.holds Ydvm.pinned (OpenSpec.ofChange lawS930024BExactWrong)

/-- 'lru.LawS930024BScript': WHATEVER THE INPUT: true; the input reads as it did. -/
def lawS930024BScriptSpec : ChangeSpec := { name := "lawS930024BScript", fn := fun _ => fun
  | [d1, d2] => { results := [.lit (.bool true)], args := [d1, d2] }
  | _ => none }
def lawS930024BScriptRow : OpenClaim := { program := "ymbrdv", sum := "d84eb0f7de5bdc202224018f2adfcbe9e1785ef321bf89c51e68c59539b6b3b1", func := "example.com/own/lru.LawS930024BScript", spec := "lawS930024BScript", apart := false }
def LawS930024BScriptSaid : Prop := lawS930024BScriptRow.holds Ydvm.pinned (OpenSpec.ofChange lawS930024BScriptSpec)

/-- ITS FALSE NEIGHBOUR: 'it returns false'. Refute it at one input. -/
def lawS930024BScriptWrong : ChangeSpec := { name := "lawS930024BScript", fn := fun _ => fun
  | [d1, d2] => { results := [.lit (.bool false)], args := [d1, d2] }
  | _ => none }
def LawS930024BScriptWrongFalsely : Prop := lawS930024BScriptRow.holds Ydvm.pinned (OpenSpec.ofChange lawS930024BScriptWrong)

/-- 'lru.LawS930024BRefill': WHATEVER THE INPUT: true; the input reads as it did. -/
def lawS930024BRefillSpec : ChangeSpec := { name := "lawS930024BRefill", fn := fun _ => fun
  | [d1, d2, d3, d4] => { results := [.lit (.bool true)], args := [d1, d2, d3, d4] }
  | _ => none }
def lawS930024BRefillRow : OpenClaim := { program := "ymbrdv", sum := "d84eb0f7de5bdc202224018f2adfcbe9e1785ef321bf89c51e68c59539b6b3b1", func := "example.com/own/lru.LawS930024BRefill", spec := "lawS930024BRefill", apart := false }
def LawS930024BRefillSaid : Prop := lawS930024BRefillRow.holds Ydvm.pinned (OpenSpec.ofChange lawS930024BRefillSpec)

/-- ITS FALSE NEIGHBOUR: 'it returns false'. Refute it at one input. -/
def lawS930024BRefillWrong : ChangeSpec := { name := "lawS930024BRefill", fn := fun _ => fun
  | [d1, d2, d3, d4] => { results := [.lit (.bool false)], args := [d1, d2, d3, d4] }
  | _ => none }
def LawS930024BRefillWrongFalsely : Prop := lawS930024BRefillRow.holds Ydvm.pinned (OpenSpec.ofChange lawS930024BRefillWrong)

/-- 'lru.LawS930024CExact': WHATEVER THE INPUT: true; the input reads as it did. -/
def lawS930024CExactSpec : ChangeSpec := { name := "lawS930024CExact", fn := fun _ => fun
  | [d1, d2] => { results := [.lit (.bool true)], args := [d1, d2] }
  | _ => none }
def lawS930024CExactRow : OpenClaim := { program := "ymbrdv", sum := "d84eb0f7de5bdc202224018f2adfcbe9e1785ef321bf89c51e68c59539b6b3b1", func := "example.com/own/lru.LawS930024CExact", spec := "lawS930024CExact", apart := false }
def LawS930024CExactSaid : Prop := lawS930024CExactRow.holds Ydvm.pinned (OpenSpec.ofChange lawS930024CExactSpec)

/-- ITS FALSE NEIGHBOUR: 'it returns false'. Refute it at one input. -/
def lawS930024CExactWrong : ChangeSpec := { name := "lawS930024CExact", fn := fun _ => fun
  | [d1, d2] => { results := [.lit (.bool false)], args := [d1, d2] }
  | _ => none }
def LawS930024CExactWrongFalsely : Prop := lawS930024CExactRow.holds Ydvm.pinned (OpenSpec.ofChange lawS930024CExactWrong)

/-- 'lru.LawS930024CDrain': WHATEVER THE INPUT: true; the input reads as it did. -/
def lawS930024CDrainSpec : ChangeSpec := { name := "lawS930024CDrain", fn := fun _ => fun
  | [d1, d2, d3, d4] => { results := [.lit (.bool true)], args := [d1, d2, d3, d4] }
  | _ => none }
def lawS930024CDrainRow : OpenClaim := { program := "ymbrdv", sum := "d84eb0f7de5bdc202224018f2adfcbe9e1785ef321bf89c51e68c59539b6b3b1", func := "example.com/own/lru.LawS930024CDrain", spec := "lawS930024CDrain", apart := false }
def LawS930024CDrainSaid : Prop := lawS930024CDrainRow.holds Ydvm.pinned (OpenSpec.ofChange lawS930024CDrainSpec)

/-- ITS FALSE NEIGHBOUR: 'it returns false'. Refute it at one input. -/
def lawS930024CDrainWrong : ChangeSpec := { name := "lawS930024CDrain", fn := fun _ => fun
  | [d1, d2, d3, d4] => { results := [.lit (.bool false)], args := [d1, d2, d3, d4] }
  | _ => none }
def LawS930024CDrainWrongFalsely : Prop := lawS930024CDrainRow.holds Ydvm.pinned (OpenSpec.ofChange lawS930024CDrainWrong)

/-- 'lru.LawS930024CRefuse': WHATEVER THE INPUT: true; the input reads as it did. -/
def lawS930024CRefuseSpec : ChangeSpec := { name := "lawS930024CRefuse", fn := fun _ => fun
  | [d1, d2, d3, d4, d5, d6] => { results := [.lit (.bool true)], args := [d1, d2, d3, d4, d5, d6] }
  | _ => none }
def lawS930024CRefuseRow : OpenClaim := { program := "ymbrdv", sum := "d84eb0f7de5bdc202224018f2adfcbe9e1785ef321bf89c51e68c59539b6b3b1", func := "example.com/own/lru.LawS930024CRefuse", spec := "lawS930024CRefuse", apart := false }
def LawS930024CRefuseSaid : Prop := lawS930024CRefuseRow.holds Ydvm.pinned (OpenSpec.ofChange lawS930024CRefuseSpec)

/-- ITS FALSE NEIGHBOUR: 'it returns false'. Refute it at one input. -/
def lawS930024CRefuseWrong : ChangeSpec := { name := "lawS930024CRefuse", fn := fun _ => fun
  | [d1, d2, d3, d4, d5, d6] => { results := [.lit (.bool false)], args := [d1, d2, d3, d4, d5, d6] }
  | _ => none }
def LawS930024CRefuseWrongFalsely : Prop := lawS930024CRefuseRow.holds Ydvm.pinned (OpenSpec.ofChange lawS930024CRefuseWrong)

/-- 'lru.LawS930024DOrder': WHATEVER THE INPUT: true; the input reads as it did. -/
def lawS930024DOrderSpec : ChangeSpec := { name := "lawS930024DOrder", fn := fun _ => fun
  | [d1, d2, d3, d4] => { results := [.lit (.bool true)], args := [d1, d2, d3, d4] }
  | _ => none }
def lawS930024DOrderRow : OpenClaim := { program := "ymbrdv", sum := "d84eb0f7de5bdc202224018f2adfcbe9e1785ef321bf89c51e68c59539b6b3b1", func := "example.com/own/lru.LawS930024DOrder", spec := "lawS930024DOrder", apart := false }
def LawS930024DOrderSaid : Prop := lawS930024DOrderRow.holds Ydvm.pinned (OpenSpec.ofChange lawS930024DOrderSpec)

/-- ITS FALSE NEIGHBOUR: 'it returns false'. Refute it at one input. -/
def lawS930024DOrderWrong : ChangeSpec := { name := "lawS930024DOrder", fn := fun _ => fun
  | [d1, d2, d3, d4] => { results := [.lit (.bool false)], args := [d1, d2, d3, d4] }
  | _ => none }
def LawS930024DOrderWrongFalsely : Prop := lawS930024DOrderRow.holds Ydvm.pinned (OpenSpec.ofChange lawS930024DOrderWrong)

/-- 'lru.LawS930024DDrain': WHATEVER THE INPUT: true; the input reads as it did. -/
def lawS930024DDrainSpec : ChangeSpec := { name := "lawS930024DDrain", fn := fun _ => fun
  | [d1, d2, d3, d4] => { results := [.lit (.bool true)], args := [d1, d2, d3, d4] }
  | _ => none }
def lawS930024DDrainRow : OpenClaim := { program := "ymbrdv", sum := "d84eb0f7de5bdc202224018f2adfcbe9e1785ef321bf89c51e68c59539b6b3b1", func := "example.com/own/lru.LawS930024DDrain", spec := "lawS930024DDrain", apart := false }
def LawS930024DDrainSaid : Prop := lawS930024DDrainRow.holds Ydvm.pinned (OpenSpec.ofChange lawS930024DDrainSpec)

/-- ITS FALSE NEIGHBOUR: 'it returns false'. Refute it at one input. -/
def lawS930024DDrainWrong : ChangeSpec := { name := "lawS930024DDrain", fn := fun _ => fun
  | [d1, d2, d3, d4] => { results := [.lit (.bool false)], args := [d1, d2, d3, d4] }
  | _ => none }
def LawS930024DDrainWrongFalsely : Prop := lawS930024DDrainRow.holds Ydvm.pinned (OpenSpec.ofChange lawS930024DDrainWrong)

/-- 'lru.LawS930024DTwin': WHATEVER THE INPUT: true; the input reads as it did. -/
def lawS930024DTwinSpec : ChangeSpec := { name := "lawS930024DTwin", fn := fun _ => fun
  | [d1, d2, d3, d4] => { results := [.lit (.bool true)], args := [d1, d2, d3, d4] }
  | _ => none }
def lawS930024DTwinRow : OpenClaim := { program := "ymbrdv", sum := "d84eb0f7de5bdc202224018f2adfcbe9e1785ef321bf89c51e68c59539b6b3b1", func := "example.com/own/lru.LawS930024DTwin", spec := "lawS930024DTwin", apart := false }
def LawS930024DTwinSaid : Prop := lawS930024DTwinRow.holds Ydvm.pinned (OpenSpec.ofChange lawS930024DTwinSpec)

/-- ITS FALSE NEIGHBOUR: 'it returns false'. Refute it at one input. -/
def lawS930024DTwinWrong : ChangeSpec := { name := "lawS930024DTwin", fn := fun _ => fun
  | [d1, d2, d3, d4] => { results := [.lit (.bool false)], args := [d1, d2, d3, d4] }
  | _ => none }
def LawS930024DTwinWrongFalsely : Prop := lawS930024DTwinRow.holds Ydvm.pinned (OpenSpec.ofChange lawS930024DTwinWrong)

end Rows
end Go.Proofs.Ymbrdv
