/- '==' and '!=' on entries; the walk of Equal. -/
import Derived.Test.YmbrdwCore4
import Derived.WalkLawsBesides
namespace Go.Proofs.Ymbrdw
open Go.RowKit
theorem entry_eqIn (a b a' b' : Int) (w : World) : (Op.equalIn 10000 28 (.agg #[.int .i64 a, .int .i64 b]) (.agg #[.int .i64 a', .int .i64 b'])).run Ydwm.prog w = .ok (a == a' && b == b') w := by
  by_cases h1 : a = a'
  · subst h1
    by_cases h2 : b = b'
    · subst h2; simp [go_sem, Ydwm.underlying28]
    · simp [go_sem, Ydwm.underlying28, h2]
  · simp [go_sem, Ydwm.underlying28, h1]
theorem entry_neq (a b a' b' : Int) (w : World) : (binOp .neq 28 (.agg #[.int .i64 a, .int .i64 b]) (.agg #[.int .i64 a', .int .i64 b'])).run Ydwm.prog w = .ok (.bool (!(a == a' && b == b'))) w := by
  rw [run_neq_struct, entry_eqIn]; rfl
theorem entry_eql (a b a' b' : Int) (w : World) : (binOp .eql 28 (.agg #[.int .i64 a, .int .i64 b]) (.agg #[.int .i64 a', .int .i64 b'])).run Ydwm.prog w = .ok (.bool (a == a' && b == b')) w := by
  rw [run_eql_struct, entry_eqIn]; rfl

end Go.Proofs.Ymbrdw
