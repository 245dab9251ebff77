/- The statement Rows.LawS930024IScriptSaid: the row's frame round the walk (after the guide's own shell). -/
import Derived.Test.YmbrdxWalksIScript
import Derived.Test.YmbrdxIn
import Derived.ProofKit
import Derived.OpenShut
import Derived.ChangeOld
import Derived.Below
import Derived.Deep.Slices
namespace Go.Proofs.Ymbrdx.lawS930024IScript
open Go.ChangeShapes Go.WideShapes Go.ChangeAt Go.RowKit Go.Deep
set_option linter.unusedVariables false

theorem own : ownKnob Ydxm.prog.godebug = none := by kernel_rfl
theorem laidOut : laidOutB Ydxm.prog = true := by kernel_rfl

set_option maxRecDepth 100000 in
theorem lifted (os : Os) (started : os.Started) (H : Type) (enc : TypeId × Value → H) :
    ReturnsInHanded {} Ydxm.checked os 4 .any (Rows.lawS930024IScriptSpec.pre6 enc Ydxm.prog Ydxm.f4 Rows.lawS930024IScriptRow.domain false) (Rows.lawS930024IScriptSpec.post enc Ydxm.prog Ydxm.f4 false true false false) := by
  refine returnsInHanded_of_change (C := Ydxm.checked) own started (by kernel_rfl) Ydxm.func4
    (ChangeSpec.witness6 (enc := enc) (C := Ydxm.checked) false ⟨#[], #[.int .u8 0, .slice none 0 0], []⟩ 8 (by kernel_rfl) (by kernel_rfl) (by kernel_rfl) (by kernel_rfl)) ?_
  intro W base args ds gs before hval0 hW hcnd _
  have hval : ∀ (j : Nat) t v, Ydxm.f4.params[j]? = some t → args[j]? = some v → Value.okWide Ydxm.prog W .any base t v := hval0
  have hW' := hW
  obtain ⟨p, q, hA0, hV, rfl, hfz, hnd⟩ := hW
  have hA : DataW.TrodAll enc Ydxm.prog W 0 (fun _ => true) true Ydxm.f4.params.toList args.toList ds p := hA0
  rw [Ydxm.params4] at hA hval
  obtain ⟨v0, vs0, d0, ds0, p0, q0, hargs, rfl, rfl, h0, r0⟩ := trodAll_cons hA
  obtain ⟨v1, vs1, d1, ds1, p1, q1, rfl, rfl, rfl, h1, r1⟩ := trodAll_cons r0
  obtain ⟨rfl, rfl, rfl⟩ := trodAll_nil r1
  obtain rfl : args = #[v0, v1] := by cases args; simp_all
  obtain ⟨rfl, rfl⟩ := trodVars_none hV
  obtain ⟨a0, rfl, rfl, rfl, w0⟩ := open_int Ydxm.underlying5 (hval 0 5 v0 rfl rfl) h0
  obtain ⟨a1, len1, cap1, rfl⟩ := okWide_slice Ydxm.underlying36 (hval 1 36 v1 rfl rfl)
  have k1 := h1
  have lt1 : ∀ x ∈ p1, x.block < W.heap.size := by obtain ⟨m, hm⟩ := k1; exact DataW.trod_lt m _ _ _ hm
  obtain ⟨z1, w1⟩ : ∃ f, InStr [.u8, .i64, .i64] W a1 len1 f := by
    obtain ⟨fuel, hf⟩ := h1
    exact in_structs [.u8, .i64, .i64] Ydxm.underlying36 Ydxm.underlying72 (by kernel_rfl) (by decide) (by kernel_rfl) hf
  clear hA0 hval0
  refine (walk_IScript W a0 w0 a1 len1 cap1 z1 w1).mono fun e W' ⟨he, bel⟩ => ?_
  subst he
  exact ⟨_, rfl, _, _, _, [], _, [], hW', trodAll_mk1 (shut_bool Ydxm.underlying4 _), (trodAll_cons_mk (shut_int Ydxm.underlying5 w0) (trodAll_cons_mk (Below.trod laidOut (by kernel_rfl) (of_decide_eq_true (by kernel_rfl)) k1 bel lt1) trodAll_mk0)), rfl, bel.frame _, fun h => by cases h⟩

theorem over : Rows.lawS930024IScriptRow.holds Ydxm.pinned (OpenSpec.ofChange Rows.lawS930024IScriptSpec) :=
  OpenClaim.holds_of_wide 4 Ydxm.f4 rfl rfl rfl rfl rfl rfl rfl ⟨rfl, rfl, rfl, rfl, rfl⟩ rfl rfl rfl rfl rfl (by kernel_rfl) Ydxm.func4 (by kernel_rfl)
    (of_decide_eq_true (by kernel_rfl)) (by unfold Func.isWrapper; first | (rw [if_pos (by decide +kernel)]; kernel_rfl) | (rw [if_neg (by decide +kernel)]; exact ⟨rfl, rfl⟩))
    (fun os started H enc _ => lifted os started H enc)

theorem proved : Rows.LawS930024IScriptSaid := over
end Go.Proofs.Ymbrdx.lawS930024IScript
