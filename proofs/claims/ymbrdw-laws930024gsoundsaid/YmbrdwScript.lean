/- Scripts, and what they mean on a plain list of entries. -/
import Derived.Test.YmbrdwHeld
namespace Go.Proofs.Ymbrdw
open Go.RowKit

theorem RowAt.ents {w : World} {b t n cap : Nat} {K V : Nat → Int} (r : RowAt w b t 2 n cap (ecell K V)) : ∀ i, i < n → w.cell? ⟨b, i * 2, none⟩ = some (.int .i64 (K i)) ∧ w.cell? ⟨b, i * 2 + 1, none⟩ = some (.int .i64 (V i)) := fun i hi =>
  ⟨by rw [r.cell (i * 2) (by omega), ecell_0], by rw [r.cell (i * 2 + 1) (by omega), ecell_1]⟩
theorem RowAt.ints {w : World} {b t n cap : Nat} {f : Nat → Int} (r : RowAt w b t 1 n cap (icell f)) : ∀ i, i < n → w.cell? ⟨b, i, none⟩ = some (.int .i64 (f i)) := fun i hi => by rw [r.cell i (by omega)]; rfl
theorem InRow.ints {w : World} {b off : Nat} {a : Option Addr} {len : Nat} {k : IntKind} {f : Nat → Int} (h : InRow w b off a len 1 (fun j => .int k (f j))) : ∀ i, i < len → w.cell? ⟨b, off + i, none⟩ = some (.int k (f i)) := fun i hi => h.cell i (by omega)

theorem getLastD_eK {M : List (Int × Int)} {m : Nat} (h : M.length = m + 1) : M.getLastD (0, 0) = (eK M m, eV M m) := by
  unfold eK eV
  rw [List.getLastD_eq_getLast?, List.getLast?_eq_getElem?, List.getD_eq_getElem?_getD, h, Nat.add_sub_cancel]
theorem dropLast_eK {M : List (Int × Int)} {m : Nat} (h : M.length = m + 1) (j : Nat) (hj : j < m) : eK M.dropLast j = eK M j ∧ eV M.dropLast j = eV M j := by
  unfold eK eV
  rw [List.getD_eq_getElem?_getD, List.getD_eq_getElem?_getD, List.getElem?_dropLast, if_pos (by omega)]
  exact ⟨rfl, rfl⟩

/-- a slice of entries that came in -/
theorem InStr.ents {w : World} {a : Option Addr} {len : Nat} {z : Nat → Nat → Int} (h : InStr [.i64, .i64] w a len z) : ∃ b off, InRow w b off a len 2 (ecell (fun i => z i 0) (fun i => z i 1)) := by
  obtain ⟨⟨b, off, r⟩, _⟩ := h
  refine ⟨b, off, r.addr, r.lt, fun j hj => ?_⟩
  rw [r.cell j hj]
  unfold ecell
  have h2 : j % 2 < 2 := Nat.mod_lt _ (by omega)
  by_cases h0 : j % 2 = 0
  · rw [if_pos h0]
    show some (Value.int (([.i64, .i64] : List IntKind).getD (j % 2) .i64) (z (j / 2) (j % 2))) = _
    rw [h0]; rfl
  · rw [if_neg h0]
    show some (Value.int (([.i64, .i64] : List IntKind).getD (j % 2) .i64) (z (j / 2) (j % 2))) = _
    rw [show j % 2 = 1 by omega]; rfl

theorem instr3 {w : World} {b off : Nat} {a : Option Addr} {len : Nat} {z : Nat → Nat → Int} (h : InRow w b off a len 3 (fun j => .int (([.u8, .i64, .i64] : List IntKind).getD (j % 3) .i64) (z (j / 3) (j % 3)))) :
    ∀ i, i < len → w.cell? ⟨b, off + i * 3, none⟩ = some (.int .u8 (z i 0)) ∧ w.cell? ⟨b, off + i * 3 + 1, none⟩ = some (.int .i64 (z i 1)) ∧ w.cell? ⟨b, off + i * 3 + 2, none⟩ = some (.int .i64 (z i 2)) := by
  intro i hi
  have e : ∀ j, j < 3 → w.cell? ⟨b, off + i * 3 + j, none⟩ = some (.int (([.u8, .i64, .i64] : List IntKind).getD j .i64) (z i j)) := fun j hj => by
    have := h.cell (i * 3 + j) (by omega)
    rw [show (i * 3 + j) % 3 = j by omega, show (i * 3 + j) / 3 = i by omega, ← Nat.add_assoc] at this
    exact this
  exact ⟨e 0 (by omega), e 1 (by omega), e 2 (by omega)⟩
/-- a script: its cells, and that each operation's number is a byte -/
def Script (w : World) (b off : Nat) (a : Option Addr) (len : Nat) (z : Nat → Nat → Int) : Prop :=
  InRow w b off a len 3 (fun j => .int (([.u8, .i64, .i64] : List IntKind).getD (j % 3) .i64) (z (j / 3) (j % 3))) ∧ ∀ i, i < len → 0 ≤ z i 0 ∧ z i 0 ≤ 255
theorem Script.of {w : World} {a : Option Addr} {len : Nat} {z : Nat → Nat → Int} (h : InStr [.u8, .i64, .i64] w a len z) : ∃ b off, Script w b off a len z := by
  obtain ⟨⟨b, off, r⟩, hw⟩ := h
  exact ⟨b, off, r, fun i hi => wf_u8 (hw i 0 hi (by decide))⟩
theorem Script.keeps {w w' : World} {b off : Nat} {a : Option Addr} {len : Nat} {z : Nat → Nat → Int} {bs : List Nat} (h : Script w b off a len z) (k : Keeps bs w w') (hn : 0 < len → b ∉ bs) : Script w' b off a len z := ⟨h.1.keeps k hn, h.2⟩

/-- one step of the script on a list of entries: g, r, e: the numbers of Get, Remove, Evict; m: by what the number is reduced -/
def sstep (m g r e : Int) (cap : Int) (M : List (Int × Int)) (op k v : Int) : List (Int × Int) :=
  if op % m = g then mget M k else if op % m = r then mremove M k else if op % m = e then M.dropLast else mput cap M k v
/-- the first n steps of the script -/
def splay (m g r e : Int) (cap : Int) (z : Nat → Nat → Int) (M : List (Int × Int)) : Nat → List (Int × Int)
  | 0 => M
  | n + 1 => sstep m g r e cap (splay m g r e cap z M n) (z n 0) (z n 1) (z n 2)

/-- what a builder answers -/
def BuildPost (cap : Int) (len : Nat) (M : List (Int × Int)) (w : World) (e : Ending) (w' : World) : Prop :=
  ∃ nb c, e = .returned (.pointer (some ⟨w.heap.size, 0, none⟩)) ∧ Held w' w.heap.size nb c len cap M ∧ w.heap.size ≤ nb ∧ Keeps [] w w'

/-- what a player on a given cache leaves -/
def RunPost (cb nb0 N : Nat) (cap : Int) (M : List (Int × Int)) (w : World) (e : Ending) (w' : World) : Prop :=
  ∃ nb c, e = .returned (.tuple #[]) ∧ Held w' cb nb c N cap M ∧ (nb = nb0 ∨ w.heap.size ≤ nb) ∧ Keeps [cb, nb0] w w'
end Go.Proofs.Ymbrdw
