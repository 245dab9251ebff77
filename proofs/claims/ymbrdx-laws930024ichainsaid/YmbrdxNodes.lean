/- Slots compared and copied. -/
import Derived.Test.YmbrdxLists
import Derived.Laws.CopyRow
namespace Go.Proofs.Ymbrdx
open Go.RowKit

/-- two slots that hold the same compare as equal -/
theorem node_same (k v p x : Int) (w : World) : (binOp .neq 28 (.agg #[.int .i64 k, .int .i64 v, .int .i64 p, .int .i64 x]) (.agg #[.int .i64 k, .int .i64 v, .int .i64 p, .int .i64 x])).run Ydxm.prog w = .ok (.bool false) w := by
  rw [run_neq_struct]
  have : (Op.equalIn 10000 28 (.agg #[.int .i64 k, .int .i64 v, .int .i64 p, .int .i64 x]) (.agg #[.int .i64 k, .int .i64 v, .int .i64 p, .int .i64 x])).run Ydxm.prog w = .ok true w := by
    simp [go_sem, Ydxm.underlying28, Ydxm.underlying26]
  rw [this]; rfl

theorem Keeps.setRow (w : World) (g : Nat) (cs : Array Value) : Keeps [g] w (w.setRow g cs) :=
  ⟨rfl, rfl, rfl, by simp [World.setRow], fun k _ hk => setRow_other w g k cs (by simpa using hk)⟩

section
variable {P : Program} {w : World}
/-- copy of a row of slots onto a row of the call's own -/
theorem run_copy_rows (dT sT elem : TypeId) (size : Nat) (hu : P.underlying dT = some (.slice elem)) (i : TypeInfo) (hi : P.info? elem = some i) (hs : i.size = size) (g n cap b ncap : Nat) (f h : Nat → Value) (t t' : TypeId)
    (R : RowAt w g t size n cap f) (S : RowAt w b t' size n ncap h) (h1 : ∀ j, j < n * size → (h j).oneCell' = true) :
    ∃ w', (∀ ty, (Builtin.copy_ #[dT, sT] ty #[.slice (some ⟨g, 0, none⟩) n cap, .slice (some ⟨b, 0, none⟩) n ncap]).run P w = .ok (goInt n) w') ∧ RowAt w' g t size n cap h ∧ Keeps [g] w w' := by
  obtain ⟨arr, ha, hsz, _⟩ := R.blk
  obtain ⟨src, hb, hsb, hc⟩ := S.blk
  have hle : n * size ≤ cap * size := Nat.mul_le_mul_right _ R.le
  have hl := run_loadCells_list (P := P) (w := w) ⟨b, 0, none⟩ ((List.range (n * size)).map h) (fun j v hj => by
    obtain ⟨h2, h3⟩ := List.getElem?_eq_some_iff.1 hj
    have h4 : j < n * size := by simpa using h2
    have h5 : v = h j := by simpa using h3.symm
    rw [show (⟨b, 0, none⟩ : Addr).add j = ⟨b, j, none⟩ by unfold Addr.add; simp; omega, S.cell j h4, h5])
  have hst := run_storeCells_at P g 0 t ((List.range (n * size)).map h) 0 arr w ha (by simp; omega) (fun v hv => by
    obtain ⟨j, hj, rfl⟩ := List.mem_map.1 hv
    exact h1 j (List.mem_range.1 hj))
  obtain ⟨A, hA⟩ : ∃ A : Array Value, A = (arr.toList.take (0 + 0) ++ (List.range (n * size)).map h ++ arr.toList.drop (0 + 0 + ((List.range (n * size)).map h).length)).toArray := ⟨_, rfl⟩
  rw [← hA] at hst
  refine ⟨w.setRow g A, ?_, ⟨⟨A, setRow_heap w g arr A t _ ha, ?_, fun j hj => ?_⟩, R.le, R.cm⟩, Keeps.setRow w g A⟩
  · intro ty
    rw [List.length_map, List.length_range] at hl
    simp [Builtin.copy_, run_underlying hu, Builtin.lenOf, Builtin.firstCells, sizeOf, typeInfo, hi, hs, hl, hst]
  · rw [hA]; simp; omega
  · rw [hA]; simp [hj, List.getElem?_append]
theorem run_copy_nil (dT sT ty elem : TypeId) (hu : P.underlying dT = some (.slice elem)) (i : TypeInfo) (hi : P.info? elem = some i) (g : Nat) (cap : Nat) (a : Option Addr) (sc : Nat) :
    (Builtin.copy_ #[dT, sT] ty #[.slice (some ⟨g, 0, none⟩) 0 cap, .slice a 0 sc]).run P w = .ok (goInt 0) w := by
  cases a with
  | none => simp [Builtin.copy_, run_underlying hu, Builtin.lenOf, Builtin.firstCells, sizeOf, typeInfo, hi, storeCells]
  | some ad =>
    have hl := run_loadCells_list (P := P) (w := w) ad [] (fun j v hj => by simp at hj)
    rw [List.length_nil] at hl
    simp [Builtin.copy_, run_underlying hu, Builtin.lenOf, Builtin.firstCells, sizeOf, typeInfo, hi, hl, storeCells]
/-- the law at a copy whose run is known -/
theorem wp_copy {ops : Array Oper} {rest : List Oper} {o : Oper} {a : Act} {Q : Exit → Act → World → Prop} (hgd : o.guard = none) (d s : Operand) (dT sT : TypeId)
    (ho : o.op = .call { callee := .builtin .copy, args := #[d, s], argTypes := #[dT, sT] }) (vd vs : Value) (hd : a.eval d = vd) (hs : a.eval s = vs) (r : Value) (w' : World)
    (hrun : ∀ ty, (Builtin.copy_ #[dT, sT] ty #[vd, vs]).run P w = .ok r w') (h : wpList P ops Q rest (a.put o.dst r) w') : wpList P ops Q (o :: rest) a w := by
  refine wpList_plain hgd fun K hK => ?_
  unfold Oper.wp
  simp [execOp, ho, resolve, invoke, builtin, hd, hs, hrun, Result.andThen]
  exact hK _ _ h
end
end Go.Proofs.Ymbrdx
