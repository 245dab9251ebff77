/- The statement Rows.LawS930024BScriptSaid: the row's frame round the walk (after the guide's own shell). -/
import Derived.Test.YmbrdvWalksBScript
import Derived.Test.YmbrdvIn
import Derived.ProofKit
import Derived.OpenShut
import Derived.ChangeOld
import Derived.Below
import Derived.Deep.Slices
namespace Go.Proofs.Ymbrdv.lawS930024BScript
open Go.ChangeShapes Go.WideShapes Go.ChangeAt Go.RowKit Go.Deep
set_option linter.unusedVariables false

theorem own : ownKnob Ydvm.prog.godebug = none := by kernel_rfl
theorem laidOut : laidOutB Ydvm.prog = true := by kernel_rfl

set_option maxRecDepth 100000 in
theorem lifted (os : Os) (started : os.Started) (H : Type) (enc : TypeId × Value → H) :
    ReturnsInHanded {} Ydvm.checked os 7 .any (Rows.lawS930024BScriptSpec.pre6 enc Ydvm.prog Ydvm.f7 Rows.lawS930024BScriptRow.domain false) (Rows.lawS930024BScriptSpec.post enc Ydvm.prog Ydvm.f7 false true false false) := by
  refine returnsInHanded_of_change (C := Ydvm.checked) own started (by kernel_rfl) Ydvm.func7
    (ChangeSpec.witness6 (enc := enc) (C := Ydvm.checked) false ⟨#[], #[.slice none 0 0, .slice none 0 0], []⟩ 8 (by kernel_rfl) (by kernel_rfl) (by kernel_rfl) (by kernel_rfl)) ?_
  intro W base args ds gs before hval0 hW hcnd _
  have hval : ∀ (j : Nat) t v, Ydvm.f7.params[j]? = some t → args[j]? = some v → Value.okWide Ydvm.prog W .any base t v := hval0
  have hW' := hW
  obtain ⟨p, q, hA0, hV, rfl, hfz, hnd⟩ := hW
  have hA : DataW.TrodAll enc Ydvm.prog W 0 (fun _ => true) true Ydvm.f7.params.toList args.toList ds p := hA0
  rw [Ydvm.params7] at hA hval
  obtain ⟨v0, vs0, d0, ds0, p0, q0, hargs, rfl, rfl, h0, r0⟩ := trodAll_cons hA
  obtain ⟨v1, vs1, d1, ds1, p1, q1, rfl, rfl, rfl, h1, r1⟩ := trodAll_cons r0
  obtain ⟨rfl, rfl, rfl⟩ := trodAll_nil r1
  obtain rfl : args = #[v0, v1] := by cases args; simp_all
  obtain ⟨rfl, rfl⟩ := trodVars_none hV
  obtain ⟨a0, len0, cap0, rfl⟩ := okWide_slice Ydvm.underlying22 (hval 0 22 v0 rfl rfl)
  have k0 := h0
  have lt0 : ∀ x ∈ p0, x.block < W.heap.size := by obtain ⟨m, hm⟩ := k0; exact DataW.trod_lt m _ _ _ hm
  obtain ⟨z0, w0⟩ : ∃ f, InInts .i64 W a0 len0 f := by
    obtain ⟨fuel, hf⟩ := h0
    exact in_ints Ydvm.underlying22 Ydvm.underlying3 (by kernel_rfl) hf
  obtain ⟨a1, len1, cap1, rfl⟩ := okWide_slice Ydvm.underlying44 (hval 1 44 v1 rfl rfl)
  have k1 := h1
  have lt1 : ∀ x ∈ p1, x.block < W.heap.size := by obtain ⟨m, hm⟩ := k1; exact DataW.trod_lt m _ _ _ hm
  obtain ⟨z1, w1⟩ : ∃ f, InInts .u16 W a1 len1 f := by
    obtain ⟨fuel, hf⟩ := h1
    exact in_ints Ydvm.underlying44 Ydvm.underlying40 (by kernel_rfl) hf
  clear hA0 hval0
  refine (walk_BScript W a0 len0 cap0 z0 w0 a1 len1 cap1 z1 w1).mono fun e W' ⟨he, bel⟩ => ?_
  subst he
  exact ⟨_, rfl, _, _, _, [], _, [], hW', trodAll_mk1 (shut_bool Ydvm.underlying4 _), (trodAll_cons_mk (Below.trod laidOut (by kernel_rfl) (of_decide_eq_true (by kernel_rfl)) k0 bel lt0) (trodAll_cons_mk (Below.trod laidOut (by kernel_rfl) (of_decide_eq_true (by kernel_rfl)) k1 bel lt1) trodAll_mk0)), rfl, bel.frame _, fun h => by cases h⟩

theorem over : Rows.lawS930024BScriptRow.holds Ydvm.pinned (OpenSpec.ofChange Rows.lawS930024BScriptSpec) :=
  OpenClaim.holds_of_wide 7 Ydvm.f7 rfl rfl rfl rfl rfl rfl rfl ⟨rfl, rfl, rfl, rfl, rfl⟩ rfl rfl rfl rfl rfl (by kernel_rfl) Ydvm.func7 (by kernel_rfl)
    (of_decide_eq_true (by kernel_rfl)) (by unfold Func.isWrapper; first | (rw [if_pos (by decide +kernel)]; kernel_rfl) | (rw [if_neg (by decide +kernel)]; exact ⟨rfl, rfl⟩))
    (fun os started H enc _ => lifted os started H enc)

theorem proved : Rows.LawS930024BScriptSaid := over
end Go.Proofs.Ymbrdv.lawS930024BScript
