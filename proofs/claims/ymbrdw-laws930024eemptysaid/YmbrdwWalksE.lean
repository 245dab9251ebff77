/- The laws EEmpty and EFresh. -/
import Derived.Test.YmbrdwCore1
namespace Go.Proofs.Ymbrdw
open Go.RowKit

theorem eclamp_any (n : Int) (w : World) :
   Calls Ydwm.prog 17 #[.int .i64 n] w fun e w' => e = .returned (.int .i64 (max n 0)) ∧ w' = w := by
  by_cases h : 0 < n
  · have : max n 0 = n := by omega
    rw [this]
    go_enter Ydwm.func17, Ydwm.ntmps17
    go_wp2
    go_ret
    exact ⟨rfl, rfl⟩
  · have : max n 0 = 0 := by omega
    rw [this]
    go_enter Ydwm.func17, Ydwm.ntmps17
    go_wp2
    go_ret
    exact ⟨rfl, rfl⟩

set_option maxHeartbeats 400000 in
theorem eempty_any (b : Nat) (n : Int) (w : World) 
   (c0 : w.cell? ⟨b, 0, none⟩ = some (.slice none 0 0))
   (c1 : w.cell? ⟨b, 1, none⟩ = some (.int .i64 (-1)))
   (c2 : w.cell? ⟨b, 2, none⟩ = some (.int .i64 (-1)))
   (c3 : w.cell? ⟨b, 3, none⟩ = some (.int .i64 (-1)))
   (c4 : w.cell? ⟨b, 4, none⟩ = some (.int .i64 0))
   (c5 : w.cell? ⟨b, 5, none⟩ = some (.int .i64 n)) :
   Calls Ydwm.prog 15 #[.pointer (some ⟨b, 0, none⟩), .int .i64 n] w fun e w' => e = .returned (.bool true) ∧ w' = w := by
  have q31 : ∀ (w : World) (a : Option Addr) (n c n' c' : Nat), (binOp .eql 31 (.slice a n c) (.slice none n' c')).run Ydwm.prog w = .ok (.bool a.isNone) w := fun w a n c n' c' => Lib.run_eql_slice_nil w _ _ a n c n' c' Ydwm.underlying31
  have q23 := fun p w => run_neq_pointer_nil (P := Ydwm.prog) w 23 p Ydwm.underlying23
  go_enter Ydwm.func15, Ydwm.ntmps15
  go_wp2
  go_ret
  exact ⟨rfl, rfl⟩

set_option maxHeartbeats 400000 in
theorem walk_EEmpty (a0 : Int) (_w0 : (Lit.int .i64 a0).wf = true) (w : World) :
    Calls Ydwm.prog 3 #[.int .i64 a0] w fun e w' => e = .returned (.bool true) ∧ Below w.heap.size w w' := by
  go_enter Ydwm.func3, Ydwm.ntmps3
  go_wp2_with fail
  refine (New_any _ _).mono ?_
  rintro e w' ⟨rfl, rfl⟩
  go_wp2_with fail
  refine (eclamp_any _ _).mono ?_
  rintro e w' ⟨rfl, rfl⟩
  go_wp2_with fail
  refine (eempty_any _ _ _ (by simp) (by simp) (by simp) (by simp) (by simp) (by simp)).mono ?_
  rintro e w' ⟨rfl, rfl⟩
  go_wp2_with fail
  go_ret
  exact ⟨rfl, (Below.refl _ _).alloc (Nat.le_refl _) _⟩
end Go.Proofs.Ymbrdw
