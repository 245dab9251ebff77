/- The statement Rows.LawS930024FStepSaid: the row's frame round the walk (after the guide's own shell). -/
import Derived.Test.YmbrdwWalksFStep
import Derived.Test.YmbrdwIn
import Derived.ProofKit
import Derived.OpenShut
import Derived.ChangeOld
import Derived.Below
import Derived.Deep.Slices
import Derived.Lib.SmallJoins
namespace Go.Proofs.Ymbrdw.lawS930024FStep
open Go.ChangeShapes Go.WideShapes Go.ChangeAt Go.RowKit Go.Deep Go.Joins
set_option linter.unusedVariables false

theorem own : ownKnob Ydwm.prog.godebug = none := by kernel_rfl
theorem laidOut : laidOutB Ydwm.prog = true := by kernel_rfl

set_option maxRecDepth 100000 in
theorem lifted (os : Os) (started : os.Started) (H : Type) (enc : TypeId × Value → H) :
    ReturnsInHanded {} Ydwm.checked os 7 .any (Rows.lawS930024FStepSpec.pre6 enc Ydwm.prog Ydwm.f7 Rows.lawS930024FStepRow.domain false) (Rows.lawS930024FStepSpec.post enc Ydwm.prog Ydwm.f7 false true false false) := by
  refine returnsInHanded_of_change (C := Ydwm.checked) own started (by kernel_rfl) Ydwm.func7
    (ChangeSpec.witness6 (enc := enc) (C := Ydwm.checked) false ⟨#[], #[.slice none 0 0, .agg #[.int .i64 0, .int .i64 0, .int .i64 0, .int .i64 0], .int .u64 0, .int .u64 0, .int .i64 0, .int .i64 0, .int .i64 0, .int .i64 0], []⟩ 8 (by kernel_rfl) (by kernel_rfl) (by kernel_rfl) (by kernel_rfl)) ?_
  intro W base args ds gs before hval0 hW hcnd _
  have hval : ∀ (j : Nat) t v, Ydwm.f7.params[j]? = some t → args[j]? = some v → Value.okWide Ydwm.prog W .any base t v := hval0
  have hW' := hW
  obtain ⟨p, q, hA0, hV, rfl, hfz, hnd⟩ := hW
  have hA : DataW.TrodAll enc Ydwm.prog W 0 (fun _ => true) true Ydwm.f7.params.toList args.toList ds p := hA0
  rw [Ydwm.params7] at hA hval
  obtain ⟨v0, vs0, d0, ds0, p0, q0, hargs, rfl, rfl, h0, r0⟩ := trodAll_cons hA
  obtain ⟨v1, vs1, d1, ds1, p1, q1, rfl, rfl, rfl, h1, r1⟩ := trodAll_cons r0
  obtain ⟨v2, vs2, d2, ds2, p2, q2, rfl, rfl, rfl, h2, r2⟩ := trodAll_cons r1
  obtain ⟨v3, vs3, d3, ds3, p3, q3, rfl, rfl, rfl, h3, r3⟩ := trodAll_cons r2
  obtain ⟨v4, vs4, d4, ds4, p4, q4, rfl, rfl, rfl, h4, r4⟩ := trodAll_cons r3
  obtain ⟨v5, vs5, d5, ds5, p5, q5, rfl, rfl, rfl, h5, r5⟩ := trodAll_cons r4
  obtain ⟨v6, vs6, d6, ds6, p6, q6, rfl, rfl, rfl, h6, r6⟩ := trodAll_cons r5
  obtain ⟨v7, vs7, d7, ds7, p7, q7, rfl, rfl, rfl, h7, r7⟩ := trodAll_cons r6
  obtain ⟨rfl, rfl, rfl⟩ := trodAll_nil r7
  obtain rfl : args = #[v0, v1, v2, v3, v4, v5, v6, v7] := by cases args; simp_all
  obtain ⟨rfl, rfl⟩ := trodVars_none hV
  obtain ⟨a0, len0, cap0, rfl⟩ := okWide_slice Ydwm.underlying44 (hval 0 44 v0 rfl rfl)
  have k0 := h0
  have lt0 : ∀ x ∈ p0, x.block < W.heap.size := by obtain ⟨m, hm⟩ := k0; exact DataW.trod_lt m _ _ _ hm
  obtain ⟨z0, w0⟩ : ∃ f, InStr [.i64, .i64, .i64, .i64] W a0 len0 f := by
    obtain ⟨fuel, hf⟩ := h0
    exact in_structs [.i64, .i64, .i64, .i64] Ydwm.underlying44 Ydwm.underlying46 (by kernel_rfl) (by decide) (by kernel_rfl) hf
  obtain ⟨c0, c1, c2, c3, y0, y1, y2, y3, m1, rfl, rfl, rfl, hy0, hy1, hy2, hy3⟩ := open_agg4 Ydwm.underlying46 (by kernel_rfl) (by kernel_rfl) (hval 1 46 v1 rfl rfl) h1
  have k1 := h1
  have lt1 : ∀ x ∈ y0.2 ++ (y1.2 ++ (y2.2 ++ y3.2)), x.block < W.heap.size := by obtain ⟨m, hm⟩ := k1; exact DataW.trod_lt m _ _ _ hm
  obtain ⟨b0, e0, g0, wb0⟩ := DataW.trod_int Ydwm.underlying3 hy0
  obtain rfl : c0 = .int .i64 b0 := by simpa using e0
  obtain ⟨b1, e1, g1, wb1⟩ := DataW.trod_int Ydwm.underlying3 hy1
  obtain rfl : c1 = .int .i64 b1 := by simpa using e1
  obtain ⟨b2, e2, g2, wb2⟩ := DataW.trod_int Ydwm.underlying3 hy2
  obtain rfl : c2 = .int .i64 b2 := by simpa using e2
  obtain ⟨b3, e3, g3, wb3⟩ := DataW.trod_int Ydwm.underlying3 hy3
  obtain rfl : c3 = .int .i64 b3 := by simpa using e3
  obtain ⟨a2, rfl, rfl, rfl, w2⟩ := open_int Ydwm.underlying36 (hval 2 36 v2 rfl rfl) h2
  obtain ⟨a3, rfl, rfl, rfl, w3⟩ := open_int Ydwm.underlying36 (hval 3 36 v3 rfl rfl) h3
  obtain ⟨a4, rfl, rfl, rfl, w4⟩ := open_int Ydwm.underlying3 (hval 4 3 v4 rfl rfl) h4
  obtain ⟨a5, rfl, rfl, rfl, w5⟩ := open_int Ydwm.underlying3 (hval 5 3 v5 rfl rfl) h5
  obtain ⟨a6, rfl, rfl, rfl, w6⟩ := open_int Ydwm.underlying3 (hval 6 3 v6 rfl rfl) h6
  obtain ⟨a7, rfl, rfl, rfl, w7⟩ := open_int Ydwm.underlying3 (hval 7 3 v7 rfl rfl) h7
  clear hA0 hval0
  refine (walk_FStep W a0 len0 cap0 z0 w0 b0 wb0 b1 wb1 b2 wb2 b3 wb3 a2 w2 a3 w3 a4 w4 a5 w5 a6 w6 a7 w7).mono fun e W' ⟨he, bel⟩ => ?_
  subst he
  exact ⟨_, rfl, _, _, _, [], _, [], hW', trodAll_mk1 (shut_bool Ydwm.underlying4 _), (trodAll_cons_mk (Below.trod laidOut (by kernel_rfl) (of_decide_eq_true (by kernel_rfl)) k0 bel lt0) (trodAll_cons_mk (Below.trod laidOut (by kernel_rfl) (of_decide_eq_true (by kernel_rfl)) k1 bel lt1) (trodAll_cons_mk (shut_int Ydwm.underlying36 w2) (trodAll_cons_mk (shut_int Ydwm.underlying36 w3) (trodAll_cons_mk (shut_int Ydwm.underlying3 w4) (trodAll_cons_mk (shut_int Ydwm.underlying3 w5) (trodAll_cons_mk (shut_int Ydwm.underlying3 w6) (trodAll_cons_mk (shut_int Ydwm.underlying3 w7) trodAll_mk0)))))))), rfl, bel.frame _, fun h => by cases h⟩

theorem over : Rows.lawS930024FStepRow.holds Ydwm.pinned (OpenSpec.ofChange Rows.lawS930024FStepSpec) :=
  OpenClaim.holds_of_wide 7 Ydwm.f7 rfl rfl rfl rfl rfl rfl rfl ⟨rfl, rfl, rfl, rfl, rfl⟩ rfl rfl rfl rfl rfl (by kernel_rfl) Ydwm.func7 (by kernel_rfl)
    (of_decide_eq_true (by kernel_rfl)) (by unfold Func.isWrapper; first | (rw [if_pos (by decide +kernel)]; kernel_rfl) | (rw [if_neg (by decide +kernel)]; exact ⟨rfl, rfl⟩))
    (fun os started H enc _ => lifted os started H enc)

theorem proved : Rows.LawS930024FStepSaid := over
end Go.Proofs.Ymbrdw.lawS930024FStep
