/- The statement Rows.LawS930024JSlotSaid: the row's frame round the walk (after the guide's own shell). -/
import Derived.Test.YmbrdxWalksJSlot
import Derived.Test.YmbrdxIn
import Derived.ProofKit
import Derived.OpenShut
import Derived.ChangeOld
import Derived.Below
import Derived.Deep.Slices
namespace Go.Proofs.Ymbrdx.lawS930024JSlot
open Go.ChangeShapes Go.WideShapes Go.ChangeAt Go.RowKit Go.Deep
set_option linter.unusedVariables false

theorem own : ownKnob Ydxm.prog.godebug = none := by kernel_rfl
theorem laidOut : laidOutB Ydxm.prog = true := by kernel_rfl

set_option maxRecDepth 100000 in
theorem lifted (os : Os) (started : os.Started) (H : Type) (enc : TypeId × Value → H) :
    ReturnsInHanded {} Ydxm.checked os 6 .any (Rows.lawS930024JSlotSpec.pre6 enc Ydxm.prog Ydxm.f6 Rows.lawS930024JSlotRow.domain false) (Rows.lawS930024JSlotSpec.post enc Ydxm.prog Ydxm.f6 false true false false) := by
  refine returnsInHanded_of_change (C := Ydxm.checked) own started (by kernel_rfl) Ydxm.func6
    (ChangeSpec.witness6 (enc := enc) (C := Ydxm.checked) false ⟨#[], #[.slice none 0 0, .int .u8 0, .int .u16 0, .bool false, .bool false, .int .u16 0, .int .i64 0], []⟩ 8 (by kernel_rfl) (by kernel_rfl) (by kernel_rfl) (by kernel_rfl)) ?_
  intro W base args ds gs before hval0 hW hcnd _
  have hval : ∀ (j : Nat) t v, Ydxm.f6.params[j]? = some t → args[j]? = some v → Value.okWide Ydxm.prog W .any base t v := hval0
  have hW' := hW
  obtain ⟨p, q, hA0, hV, rfl, hfz, hnd⟩ := hW
  have hA : DataW.TrodAll enc Ydxm.prog W 0 (fun _ => true) true Ydxm.f6.params.toList args.toList ds p := hA0
  rw [Ydxm.params6] at hA hval
  obtain ⟨v0, vs0, d0, ds0, p0, q0, hargs, rfl, rfl, h0, r0⟩ := trodAll_cons hA
  obtain ⟨v1, vs1, d1, ds1, p1, q1, rfl, rfl, rfl, h1, r1⟩ := trodAll_cons r0
  obtain ⟨v2, vs2, d2, ds2, p2, q2, rfl, rfl, rfl, h2, r2⟩ := trodAll_cons r1
  obtain ⟨v3, vs3, d3, ds3, p3, q3, rfl, rfl, rfl, h3, r3⟩ := trodAll_cons r2
  obtain ⟨v4, vs4, d4, ds4, p4, q4, rfl, rfl, rfl, h4, r4⟩ := trodAll_cons r3
  obtain ⟨v5, vs5, d5, ds5, p5, q5, rfl, rfl, rfl, h5, r5⟩ := trodAll_cons r4
  obtain ⟨v6, vs6, d6, ds6, p6, q6, rfl, rfl, rfl, h6, r6⟩ := trodAll_cons r5
  obtain ⟨rfl, rfl, rfl⟩ := trodAll_nil r6
  obtain rfl : args = #[v0, v1, v2, v3, v4, v5, v6] := by cases args; simp_all
  obtain ⟨rfl, rfl⟩ := trodVars_none hV
  obtain ⟨a0, len0, cap0, rfl⟩ := okWide_slice Ydxm.underlying22 (hval 0 22 v0 rfl rfl)
  have k0 := h0
  have lt0 : ∀ x ∈ p0, x.block < W.heap.size := by obtain ⟨m, hm⟩ := k0; exact DataW.trod_lt m _ _ _ hm
  obtain ⟨z0, w0⟩ : ∃ f, InInts .i64 W a0 len0 f := by
    obtain ⟨fuel, hf⟩ := h0
    exact in_ints Ydxm.underlying22 Ydxm.underlying3 (by kernel_rfl) hf
  obtain ⟨a1, rfl, rfl, rfl, w1⟩ := open_int Ydxm.underlying5 (hval 1 5 v1 rfl rfl) h1
  obtain ⟨a2, rfl, rfl, rfl, w2⟩ := open_int Ydxm.underlying23 (hval 2 23 v2 rfl rfl) h2
  obtain ⟨a3, rfl, rfl, rfl⟩ := open_bool Ydxm.underlying4 (hval 3 4 v3 rfl rfl) h3
  obtain ⟨a4, rfl, rfl, rfl⟩ := open_bool Ydxm.underlying4 (hval 4 4 v4 rfl rfl) h4
  obtain ⟨a5, rfl, rfl, rfl, w5⟩ := open_int Ydxm.underlying23 (hval 5 23 v5 rfl rfl) h5
  obtain ⟨a6, rfl, rfl, rfl, w6⟩ := open_int Ydxm.underlying3 (hval 6 3 v6 rfl rfl) h6
  clear hA0 hval0
  refine (walk_JSlot W a0 len0 cap0 z0 w0 a1 w1 a2 w2 a3 a4 a5 w5 a6 w6).mono fun e W' ⟨he, bel⟩ => ?_
  subst he
  exact ⟨_, rfl, _, _, _, [], _, [], hW', trodAll_mk1 (shut_bool Ydxm.underlying4 _), (trodAll_cons_mk (Below.trod laidOut (by kernel_rfl) (of_decide_eq_true (by kernel_rfl)) k0 bel lt0) (trodAll_cons_mk (shut_int Ydxm.underlying5 w1) (trodAll_cons_mk (shut_int Ydxm.underlying23 w2) (trodAll_cons_mk (shut_bool Ydxm.underlying4 a3) (trodAll_cons_mk (shut_bool Ydxm.underlying4 a4) (trodAll_cons_mk (shut_int Ydxm.underlying23 w5) (trodAll_cons_mk (shut_int Ydxm.underlying3 w6) trodAll_mk0))))))), rfl, bel.frame _, fun h => by cases h⟩

theorem over : Rows.lawS930024JSlotRow.holds Ydxm.pinned (OpenSpec.ofChange Rows.lawS930024JSlotSpec) :=
  OpenClaim.holds_of_wide 6 Ydxm.f6 rfl rfl rfl rfl rfl rfl rfl ⟨rfl, rfl, rfl, rfl, rfl⟩ rfl rfl rfl rfl rfl (by kernel_rfl) Ydxm.func6 (by kernel_rfl)
    (of_decide_eq_true (by kernel_rfl)) (by unfold Func.isWrapper; first | (rw [if_pos (by decide +kernel)]; kernel_rfl) | (rw [if_neg (by decide +kernel)]; exact ⟨rfl, rfl⟩))
    (fun os started H enc _ => lifted os started H enc)

theorem proved : Rows.LawS930024JSlotSaid := over
end Go.Proofs.Ymbrdx.lawS930024JSlot
