/- One step of the laws L on a cache. -/
import Derived.Test.YmbrdxLists
namespace Go.Proofs.Ymbrdx
open Go.RowKit

/-- what one step leaves -/
def StepPost (cb nb N : Nat) (cap : Int) (M : List (Int × Int)) (w : World) (e : Ending) (w' : World) : Prop :=
  ∃ nb' c', e = .returned (.tuple #[]) ∧ Held w' cb nb' c' (N + 1) cap M ∧ (nb' = nb ∨ w.heap.size ≤ nb') ∧ Keeps [cb, nb] w w'

set_option maxHeartbeats 4000000 in
theorem lstep_at (w : World) (cb nb N : Nat) (c : Cs) (cap : Int) (M : List (Int × Int)) (o ky vl : Int) (ho0 : 0 ≤ o) (ho1 : o ≤ 255) (H : Held w cb nb c N cap M) (hN : N ≤ 100000) :
    Calls Ydxm.prog 32 #[.pointer (some ⟨cb, 0, none⟩), .agg #[.int .u8 o, .int .i64 ky, .int .i64 vl]] w (StepPost cb nb N cap (sstep 8 2 0 1 cap M o ky vl) w) := by
  have hcl := H.lt
  have hnl := H.nlt
  obtain ⟨r, hr⟩ : ∃ r, r = o % 8 := ⟨_, rfl⟩
  have hr0 : 0 ≤ r := by omega
  have hr1 : r < 8 := by omega
  have hor : o % 8 = r := hr.symm
  by_cases h0 : r = 0
  · have HR : Hid (o % 8 = 0) := by rw [hor]; exact h0
    subst h0
    clear hr
    have CC := Remove_held ky (H.alloc (.cells #[.int .u8 o, .int .i64 ky, .int .i64 vl] 68)) (by omega)
    have HH : Hid (Held w cb nb c N cap M) := H
    clear H
    go_enter Ydxm.func32, Ydxm.ntmps32
    go_wp2_with fail
    refine CC.mono ?_
    rintro e w2 ⟨rfl, H2, K2⟩
    clear CC
    go_wp2
    refine bodyPost_ret (v := .tuple #[]) (by simp [results, Ydxm.results32, go_sem]) rfl ⟨nb, c.remove ky, rfl, ?_, .inl rfl, ((Keeps.refl _ _).alloc _).trans K2 (by simp)⟩
    unfold sstep; rw [if_neg (by rw [HR.out]; decide), if_pos HR.out]
    exact H2.mono (by omega)
  · by_cases h1 : r = 1
    · have HR : Hid (o % 8 = 1) := by rw [hor]; exact h1
      subst h1
      clear hr
      have CC := Evict_held (H.alloc (.cells #[.int .u8 o, .int .i64 ky, .int .i64 vl] 68)) (by omega)
      have HH : Hid (Held w cb nb c N cap M) := H
      clear H
      go_enter Ydxm.func32, Ydxm.ntmps32
      go_wp2_with fail
      refine CC.mono ?_
      rintro e w2 ⟨rfl, H2, K2⟩
      clear CC
      go_wp2
      refine bodyPost_ret (v := .tuple #[]) (by simp [results, Ydxm.results32, go_sem]) rfl ⟨nb, c.evict, rfl, ?_, .inl rfl, ((Keeps.refl _ _).alloc _).trans K2 (by simp)⟩
      unfold sstep; rw [if_neg (by rw [HR.out]; decide), if_neg (by rw [HR.out]; decide), if_pos HR.out]
      exact H2.mono (by omega)
    · by_cases h2 : r = 2
      · have HR : Hid (o % 8 = 2) := by rw [hor]; exact h2
        subst h2
        clear hr
        have CC := Get_held ky (H.alloc (.cells #[.int .u8 o, .int .i64 ky, .int .i64 vl] 68)) (by omega)
        have HH : Hid (Held w cb nb c N cap M) := H
        clear H
        go_enter Ydxm.func32, Ydxm.ntmps32
        go_wp2_with fail
        refine CC.mono ?_
        rintro e w2 ⟨rfl, H2, K2⟩
        clear CC
        go_wp2
        refine bodyPost_ret (v := .tuple #[]) (by simp [results, Ydxm.results32, go_sem]) rfl ⟨nb, c.get ky, rfl, ?_, .inl rfl, ((Keeps.refl _ _).alloc _).trans K2 (by simp)⟩
        unfold sstep; rw [if_pos HR.out]
        exact H2.mono (by omega)
      · have HR : Hid (¬ o % 8 = 0 ∧ ¬ o % 8 = 1 ∧ ¬ o % 8 = 2) := by rw [hor]; exact ⟨h0, h1, h2⟩
        have b0 : (r == 0) = false := beq_eq_false_iff_ne.2 h0
        have b1 : (r == 1) = false := beq_eq_false_iff_ne.2 h1
        have b2 : (r == 2) = false := beq_eq_false_iff_ne.2 h2
        clear hr h0 h1 h2
        have CC := Put_held ky vl (H.alloc (.cells #[.int .u8 o, .int .i64 ky, .int .i64 vl] 68)) (by omega)
        have HH : Hid (Held w cb nb c N cap M) := H
        clear H
        go_enter Ydxm.func32, Ydxm.ntmps32
        go_wp2_with fail
        refine CC.mono ?_
        rintro e w2 ⟨rfl, nb2, H2, hb2, K2⟩
        clear CC
        go_wp2
        refine bodyPost_ret (v := .tuple #[]) (by simp [results, Ydxm.results32, go_sem]) rfl ⟨nb2, c.put ky vl, rfl, ?_, by simp at hb2; omega, ((Keeps.refl _ _).alloc _).trans K2 (by simp)⟩
        unfold sstep; rw [if_neg HR.out.2.2, if_neg HR.out.1, if_neg HR.out.2.1]
        exact H2
end Go.Proofs.Ymbrdx
