/- How an argument that is a slice is read: numbers, bools, structs of numbers. -/
import Derived.Test.YmbrdwBase
import Derived.ProofKit
import Derived.Deep.Slices
namespace Go.Proofs.Ymbrdw
open Go.ChangeShapes Go.WideShapes Go.Deep Go.RowKit

section
variable {H : Type} {enc : TypeId × Value → H} {P : Program} {w : World} {base : Nat} {spare : Nat → Bool} {held : Bool}

/-- cells at 'a.add j' are cells of the address' own block -/
theorem inRow_of {a : Addr} {len sz : Nat} {g : Nat → Value} (hsz : 0 < sz) (h : ∀ j, j < len * sz → w.cell? (a.add j) = some (g j)) : InRow w a.block a.off (some a) len sz g := by
  have sp : 0 < len → a.spot = none := fun hl => by
    have h0 := h 0 (Nat.mul_pos hl hsz)
    rw [Addr.add, if_pos rfl] at h0
    unfold World.cell? at h0
    split at h0
    · split at h0
      · simp at h0
      · rename_i hs; simpa using hs
    · simp at h0
  refine ⟨fun hl => by have := sp hl; cases a; simp_all, fun hl => ?_, fun j hj => ?_⟩
  · have h0 := h 0 (Nat.mul_pos hl hsz)
    rw [Addr.add, if_pos rfl] at h0
    exact World.block_lt_of_cell? w _ h0
  · have hl : 0 < len := by rcases Nat.eq_zero_or_pos len with h0 | h0; (subst h0; simp at hj); exact h0
    have hs := sp hl
    rw [← h j hj]
    congr 1
    unfold Addr.add
    split
    · rename_i h0; subst h0; cases a; simp_all
    · cases a; simp_all

theorem inRow_zero (w : World) (a : Option Addr) (sz : Nat) (g : Nat → Value) : InRow w 0 0 a 0 sz g :=
  ⟨fun h => absurd h (by omega), fun h => absurd h (by omega), fun j hj => by simp at hj⟩

theorem in_ints {t e : TypeId} {k : IntKind} {fuel : Nat} {a : Option Addr} {len cap : Nat} {x : DataW H × List MemPlace} (ht : P.underlying t = some (.slice e)) (he : P.underlying e = some (.int k)) (hc : P.cellsOf e = 1)
    (h : DataW.trod enc P w base spare held fuel t (Value.slice a len cap).cells.toList = some x) : ∃ f, InInts k w a len f := by
  rcases open_slice1 ht hc h with ⟨hcs, _⟩ | ⟨a', l, c, m, n, V, D, Pl, hcs, _, hl, hm, hmm, _, hx⟩
  · simp [Value.cells] at hcs
    obtain ⟨rfl, rfl, rfl⟩ := hcs
    exact ⟨fun _ => 0, ⟨0, 0, inRow_zero _ _ _ _⟩, fun i hi => absurd hi (by omega)⟩
  · simp [Value.cells] at hcs
    obtain ⟨rfl, rfl, rfl⟩ := hcs
    have hlm : len ≤ m := by rw [hmm]; split <;> omega
    have each : ∀ i, i < len → ∃ z : Int, w.cell? (a'.add i) = some (.int k z) ∧ (Lit.int k z).wf = true := fun i hi => by
      obtain ⟨h1, h2⟩ := hx i (by omega)
      obtain ⟨z, hz, _, hw⟩ := DataW.trod_int he h2
      have hz' : V i = .int k z := by simpa using hz
      exact ⟨z, by rw [h1, hz'], hw⟩
    obtain ⟨f, hf⟩ := choose_lt each
    exact ⟨f, ⟨_, _, inRow_of (by omega) (fun j hj => (hf j (by omega)).1)⟩, fun i hi => (hf i hi).2⟩

theorem in_bools {t e : TypeId} {fuel : Nat} {a : Option Addr} {len cap : Nat} {x : DataW H × List MemPlace} (ht : P.underlying t = some (.slice e)) (he : P.underlying e = some .bool) (hc : P.cellsOf e = 1)
    (h : DataW.trod enc P w base spare held fuel t (Value.slice a len cap).cells.toList = some x) : ∃ f, InBools w a len f := by
  rcases open_slice1 ht hc h with ⟨hcs, _⟩ | ⟨a', l, c, m, n, V, D, Pl, hcs, _, hl, hm, hmm, _, hx⟩
  · simp [Value.cells] at hcs
    obtain ⟨rfl, rfl, rfl⟩ := hcs
    exact ⟨fun _ => false, 0, 0, inRow_zero _ _ _ _⟩
  · simp [Value.cells] at hcs
    obtain ⟨rfl, rfl, rfl⟩ := hcs
    have hlm : len ≤ m := by rw [hmm]; split <;> omega
    have each : ∀ i, i < len → ∃ z : Bool, w.cell? (a'.add i) = some (.bool z) := fun i hi => by
      obtain ⟨h1, h2⟩ := hx i (by omega)
      obtain ⟨z, hz, _⟩ := DataW.trod_bool he h2
      have hz' : V i = .bool z := by simpa using hz
      exact ⟨z, by rw [h1, hz']⟩
    obtain ⟨f, hf⟩ := choose_lt each
    exact ⟨f, _, _, inRow_of (by omega) (fun j hj => hf j (by omega))⟩

/-- the struct's fields are numbers of these kinds, one cell each, in order -/
def fieldsB (P : Program) (fs : Array Field) (ks : List IntKind) : Bool :=
  fs.size == ks.length && (List.range ks.length).all fun j => match fs[j]? with
    | some f => f.offset == j && P.cellsOf f.type == 1 && (match P.underlying f.type with | some (.int k) => k == ks.getD j .i64 | _ => false)
    | none => false

theorem in_structs {t e : TypeId} {fs : Array Field} (ks : List IntKind) {fuel : Nat} {a : Option Addr} {len cap : Nat} {x : DataW H × List MemPlace} (ht : P.underlying t = some (.slice e)) (he : P.underlying e = some (.struct fs))
    (hB : fieldsB P fs ks = true) (hk0 : 0 < ks.length) (hc : P.cellsOf e = ks.length)
    (h : DataW.trod enc P w base spare held fuel t (Value.slice a len cap).cells.toList = some x) : ∃ g, InStr ks w a len g := by
  rcases open_slice ht h with ⟨hcs, _⟩ | ⟨a', l, c, m, n, D, Pl, hcs, _, hl, hm, hmm, _, hx⟩
  · simp [Value.cells] at hcs
    obtain ⟨rfl, rfl, rfl⟩ := hcs
    exact ⟨fun _ _ => 0, ⟨0, 0, inRow_zero _ _ _ _⟩, fun i j hi => absurd hi (by omega)⟩
  · simp [Value.cells] at hcs
    obtain ⟨rfl, rfl, rfl⟩ := hcs
    have hlm : len ≤ m := by rw [hmm]; split <;> omega
    rw [hc] at hx
    simp only [fieldsB, Bool.and_eq_true, beq_iff_eq, List.all_eq_true, List.mem_range] at hB
    obtain ⟨hsz, hF⟩ := hB
    have each : ∀ i, i < len → ∃ z : Nat → Int, ∀ j, j < ks.length → w.cell? (a'.add (i * ks.length + j)) = some (.int (ks.getD j .i64) (z j)) ∧ (Lit.int (ks.getD j .i64) (z j)).wf = true := fun i hi => by
      obtain ⟨cs', h1, h2⟩ := hx i (by omega)
      obtain ⟨_, hlen, hcell⟩ := World.cells?_some h1
      obtain ⟨xs, k, hk, hxy, _, hxl, hf⟩ := DataW.trod_struct he h2
      refine choose_lt (α := Int) (p := fun j z => w.cell? (a'.add (i * ks.length + j)) = some (.int (ks.getD j .i64) z) ∧ (Lit.int (ks.getD j .i64) z).wf = true) fun j hj => ?_
      have hF' := hF j hj
      have hjs : j < fs.size := by omega
      have hfj : fs[j]? = some fs[j] := Array.getElem?_eq_getElem hjs
      rw [hfj] at hF'
      simp only [Bool.and_eq_true, beq_iff_eq] at hF'
      obtain ⟨⟨ho, hcf⟩, hu⟩ := hF'
      have hu' : P.underlying fs[j].type = some (.int (ks.getD j .i64)) := by
        split at hu
        · rename_i kk hkk; rw [hkk]; simpa using hu
        · simp at hu
      have g0 := hf j _ hfj
      rw [ho, hcf] at g0
      have hxs : xs[j]? = some xs[j] := List.getElem?_eq_getElem (by omega)
      rw [hxs] at g0
      obtain ⟨z, hz, _, hw⟩ := DataW.trod_int hu' g0
      refine ⟨z, ?_, hw⟩
      rw [← add_add, hcell j hj]
      have := congrArg (fun l : List Value => l[0]?) hz
      simpa using this
    obtain ⟨g, hg⟩ := choose_lt each
    refine ⟨g, ⟨_, _, inRow_of hk0 (fun j hj => ?_)⟩, fun i j hi hj => (hg i hi j hj).2⟩
    have hd : j / ks.length < len := (Nat.div_lt_iff_lt_mul hk0).2 hj
    have := (hg _ hd (j % ks.length) (Nat.mod_lt _ hk0)).1
    rw [Nat.mul_comm, Nat.div_add_mod] at this
    exact this
end
end Go.Proofs.Ymbrdw
