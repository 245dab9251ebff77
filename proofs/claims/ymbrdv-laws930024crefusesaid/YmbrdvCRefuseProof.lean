/- The statement Rows.LawS930024CRefuseSaid: the row's frame round the walk (after the guide's own shell). -/
import Derived.Test.YmbrdvWalksCRefuse
import Derived.Test.YmbrdvIn
import Derived.ProofKit
import Derived.OpenShut
import Derived.ChangeOld
import Derived.Below
import Derived.Deep.Slices
namespace Go.Proofs.Ymbrdv.lawS930024CRefuse
open Go.ChangeShapes Go.WideShapes Go.ChangeAt Go.RowKit Go.Deep
set_option linter.unusedVariables false

theorem own : ownKnob Ydvm.prog.godebug = none := by kernel_rfl
theorem laidOut : laidOutB Ydvm.prog = true := by kernel_rfl

set_option maxRecDepth 100000 in
theorem lifted (os : Os) (started : os.Started) (H : Type) (enc : TypeId × Value → H) :
    ReturnsInHanded {} Ydvm.checked os 11 .any (Rows.lawS930024CRefuseSpec.pre6 enc Ydvm.prog Ydvm.f11 Rows.lawS930024CRefuseRow.domain false) (Rows.lawS930024CRefuseSpec.post enc Ydvm.prog Ydvm.f11 false true false false) := by
  refine returnsInHanded_of_change (C := Ydvm.checked) own started (by kernel_rfl) Ydvm.func11
    (ChangeSpec.witness6 (enc := enc) (C := Ydvm.checked) false ⟨#[], #[.int .i64 0, .int .i64 0, .slice none 0 0, .int .u16 0, .int .i64 0, .int .u8 0], []⟩ 8 (by kernel_rfl) (by kernel_rfl) (by kernel_rfl) (by kernel_rfl)) ?_
  intro W base args ds gs before hval0 hW hcnd _
  have hval : ∀ (j : Nat) t v, Ydvm.f11.params[j]? = some t → args[j]? = some v → Value.okWide Ydvm.prog W .any base t v := hval0
  have hW' := hW
  obtain ⟨p, q, hA0, hV, rfl, hfz, hnd⟩ := hW
  have hA : DataW.TrodAll enc Ydvm.prog W 0 (fun _ => true) true Ydvm.f11.params.toList args.toList ds p := hA0
  rw [Ydvm.params11] at hA hval
  obtain ⟨v0, vs0, d0, ds0, p0, q0, hargs, rfl, rfl, h0, r0⟩ := trodAll_cons hA
  obtain ⟨v1, vs1, d1, ds1, p1, q1, rfl, rfl, rfl, h1, r1⟩ := trodAll_cons r0
  obtain ⟨v2, vs2, d2, ds2, p2, q2, rfl, rfl, rfl, h2, r2⟩ := trodAll_cons r1
  obtain ⟨v3, vs3, d3, ds3, p3, q3, rfl, rfl, rfl, h3, r3⟩ := trodAll_cons r2
  obtain ⟨v4, vs4, d4, ds4, p4, q4, rfl, rfl, rfl, h4, r4⟩ := trodAll_cons r3
  obtain ⟨v5, vs5, d5, ds5, p5, q5, rfl, rfl, rfl, h5, r5⟩ := trodAll_cons r4
  obtain ⟨rfl, rfl, rfl⟩ := trodAll_nil r5
  obtain rfl : args = #[v0, v1, v2, v3, v4, v5] := by cases args; simp_all
  obtain ⟨rfl, rfl⟩ := trodVars_none hV
  obtain ⟨a0, rfl, rfl, rfl, w0⟩ := open_int Ydvm.underlying3 (hval 0 3 v0 rfl rfl) h0
  obtain ⟨a1, rfl, rfl, rfl, w1⟩ := open_int Ydvm.underlying3 (hval 1 3 v1 rfl rfl) h1
  obtain ⟨a2, len2, cap2, rfl⟩ := okWide_slice Ydvm.underlying22 (hval 2 22 v2 rfl rfl)
  have k2 := h2
  have lt2 : ∀ x ∈ p2, x.block < W.heap.size := by obtain ⟨m, hm⟩ := k2; exact DataW.trod_lt m _ _ _ hm
  obtain ⟨z2, w2⟩ : ∃ f, InInts .i64 W a2 len2 f := by
    obtain ⟨fuel, hf⟩ := h2
    exact in_ints Ydvm.underlying22 Ydvm.underlying3 (by kernel_rfl) hf
  obtain ⟨a3, rfl, rfl, rfl, w3⟩ := open_int Ydvm.underlying40 (hval 3 40 v3 rfl rfl) h3
  obtain ⟨a4, rfl, rfl, rfl, w4⟩ := open_int Ydvm.underlying3 (hval 4 3 v4 rfl rfl) h4
  obtain ⟨a5, rfl, rfl, rfl, w5⟩ := open_int Ydvm.underlying5 (hval 5 5 v5 rfl rfl) h5
  clear hA0 hval0
  refine (walk_CRefuse W a0 w0 a1 w1 a2 len2 cap2 z2 w2 a3 w3 a4 w4 a5 w5).mono fun e W' ⟨he, bel⟩ => ?_
  subst he
  exact ⟨_, rfl, _, _, _, [], _, [], hW', trodAll_mk1 (shut_bool Ydvm.underlying4 _), (trodAll_cons_mk (shut_int Ydvm.underlying3 w0) (trodAll_cons_mk (shut_int Ydvm.underlying3 w1) (trodAll_cons_mk (Below.trod laidOut (by kernel_rfl) (of_decide_eq_true (by kernel_rfl)) k2 bel lt2) (trodAll_cons_mk (shut_int Ydvm.underlying40 w3) (trodAll_cons_mk (shut_int Ydvm.underlying3 w4) (trodAll_cons_mk (shut_int Ydvm.underlying5 w5) trodAll_mk0)))))), rfl, bel.frame _, fun h => by cases h⟩

theorem over : Rows.lawS930024CRefuseRow.holds Ydvm.pinned (OpenSpec.ofChange Rows.lawS930024CRefuseSpec) :=
  OpenClaim.holds_of_wide 11 Ydvm.f11 rfl rfl rfl rfl rfl rfl rfl ⟨rfl, rfl, rfl, rfl, rfl⟩ rfl rfl rfl rfl rfl (by kernel_rfl) Ydvm.func11 (by kernel_rfl)
    (of_decide_eq_true (by kernel_rfl)) (by unfold Func.isWrapper; first | (rw [if_pos (by decide +kernel)]; kernel_rfl) | (rw [if_neg (by decide +kernel)]; exact ⟨rfl, rfl⟩))
    (fun os started H enc _ => lifted os started H enc)

theorem proved : Rows.LawS930024CRefuseSaid := over
end Go.Proofs.Ymbrdv.lawS930024CRefuse
