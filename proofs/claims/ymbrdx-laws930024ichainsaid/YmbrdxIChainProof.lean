/- The statement Rows.LawS930024IChainSaid: the row's frame round the walk (after the guide's own shell). -/
import Derived.Test.YmbrdxWalksIChain
import Derived.Test.YmbrdxIn
import Derived.ProofKit
import Derived.OpenShut
import Derived.ChangeOld
import Derived.Below
import Derived.Deep.Slices
namespace Go.Proofs.Ymbrdx.lawS930024IChain
open Go.ChangeShapes Go.WideShapes Go.ChangeAt Go.RowKit Go.Deep
set_option linter.unusedVariables false

theorem own : ownKnob Ydxm.prog.godebug = none := by kernel_rfl
theorem laidOut : laidOutB Ydxm.prog = true := by kernel_rfl

set_option maxRecDepth 100000 in
theorem lifted (os : Os) (started : os.Started) (H : Type) (enc : TypeId × Value → H) :
    ReturnsInHanded {} Ydxm.checked os 3 .any (Rows.lawS930024IChainSpec.pre6 enc Ydxm.prog Ydxm.f3 Rows.lawS930024IChainRow.domain false) (Rows.lawS930024IChainSpec.post enc Ydxm.prog Ydxm.f3 false true false false) := by
  refine returnsInHanded_of_change (C := Ydxm.checked) own started (by kernel_rfl) Ydxm.func3
    (ChangeSpec.witness6 (enc := enc) (C := Ydxm.checked) false ⟨#[], #[.int .i64 0, .slice none 0 0, .int .u16 0], []⟩ 8 (by kernel_rfl) (by kernel_rfl) (by kernel_rfl) (by kernel_rfl)) ?_
  intro W base args ds gs before hval0 hW hcnd _
  have hval : ∀ (j : Nat) t v, Ydxm.f3.params[j]? = some t → args[j]? = some v → Value.okWide Ydxm.prog W .any base t v := hval0
  have hW' := hW
  obtain ⟨p, q, hA0, hV, rfl, hfz, hnd⟩ := hW
  have hA : DataW.TrodAll enc Ydxm.prog W 0 (fun _ => true) true Ydxm.f3.params.toList args.toList ds p := hA0
  rw [Ydxm.params3] at hA hval
  obtain ⟨v0, vs0, d0, ds0, p0, q0, hargs, rfl, rfl, h0, r0⟩ := trodAll_cons hA
  obtain ⟨v1, vs1, d1, ds1, p1, q1, rfl, rfl, rfl, h1, r1⟩ := trodAll_cons r0
  obtain ⟨v2, vs2, d2, ds2, p2, q2, rfl, rfl, rfl, h2, r2⟩ := trodAll_cons r1
  obtain ⟨rfl, rfl, rfl⟩ := trodAll_nil r2
  obtain rfl : args = #[v0, v1, v2] := by cases args; simp_all
  obtain ⟨rfl, rfl⟩ := trodVars_none hV
  obtain ⟨a0, rfl, rfl, rfl, w0⟩ := open_int Ydxm.underlying3 (hval 0 3 v0 rfl rfl) h0
  obtain ⟨a1, len1, cap1, rfl⟩ := okWide_slice Ydxm.underlying22 (hval 1 22 v1 rfl rfl)
  have k1 := h1
  have lt1 : ∀ x ∈ p1, x.block < W.heap.size := by obtain ⟨m, hm⟩ := k1; exact DataW.trod_lt m _ _ _ hm
  obtain ⟨z1, w1⟩ : ∃ f, InInts .i64 W a1 len1 f := by
    obtain ⟨fuel, hf⟩ := h1
    exact in_ints Ydxm.underlying22 Ydxm.underlying3 (by kernel_rfl) hf
  obtain ⟨a2, rfl, rfl, rfl, w2⟩ := open_int Ydxm.underlying23 (hval 2 23 v2 rfl rfl) h2
  clear hA0 hval0
  refine (walk_IChain W a0 w0 a1 len1 cap1 z1 w1 a2 w2).mono fun e W' ⟨he, bel⟩ => ?_
  subst he
  exact ⟨_, rfl, _, _, _, [], _, [], hW', trodAll_mk1 (shut_bool Ydxm.underlying4 _), (trodAll_cons_mk (shut_int Ydxm.underlying3 w0) (trodAll_cons_mk (Below.trod laidOut (by kernel_rfl) (of_decide_eq_true (by kernel_rfl)) k1 bel lt1) (trodAll_cons_mk (shut_int Ydxm.underlying23 w2) trodAll_mk0))), rfl, bel.frame _, fun h => by cases h⟩

theorem over : Rows.lawS930024IChainRow.holds Ydxm.pinned (OpenSpec.ofChange Rows.lawS930024IChainSpec) :=
  OpenClaim.holds_of_wide 3 Ydxm.f3 rfl rfl rfl rfl rfl rfl rfl ⟨rfl, rfl, rfl, rfl, rfl⟩ rfl rfl rfl rfl rfl (by kernel_rfl) Ydxm.func3 (by kernel_rfl)
    (of_decide_eq_true (by kernel_rfl)) (by unfold Func.isWrapper; first | (rw [if_pos (by decide +kernel)]; kernel_rfl) | (rw [if_neg (by decide +kernel)]; exact ⟨rfl, rfl⟩))
    (fun os started H enc _ => lifted os started H enc)

theorem proved : Rows.LawS930024IChainSaid := over
end Go.Proofs.Ymbrdx.lawS930024IChain
