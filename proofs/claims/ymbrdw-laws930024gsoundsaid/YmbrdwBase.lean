/- Worlds, rows and caches: what the walks of this seat are told of memory. No Go function is walked here. -/
import Derived.Test.YmbrdwRows
import Derived.WalkKit
import Derived.WalkSpells
namespace Go.Proofs.Ymbrdw
open Go.RowKit

theorem hold (w : World) (o : Obj) (i : Nat) (h : i < w.heap.size) : (w.alloc o).heap[i]? = w.heap[i]? := by
  show (w.heap.push o)[i]? = w.heap[i]?
  rw [Array.getElem?_push, if_neg (Nat.ne_of_lt h)]

/-! ### what a call may have turned -/

/-- w' is w with new blocks, and with writes to the blocks bs alone. -/
structure Keeps (bs : List Nat) (w w' : World) : Prop where
  os : w'.os = w.os
  tape : w'.tape = w.tape
  output : w'.output = w.output
  size : w.heap.size ≤ w'.heap.size
  block : ∀ k, k < w.heap.size → k ∉ bs → w'.heap[k]? = w.heap[k]?

theorem Keeps.refl (bs : List Nat) (w : World) : Keeps bs w w := ⟨rfl, rfl, rfl, Nat.le_refl _, fun _ _ _ => rfl⟩

theorem Keeps.trans {bs cs : List Nat} {a b c : World} (h : Keeps bs a b) (k : Keeps cs b c) (hc : ∀ x ∈ cs, x ∈ bs ∨ a.heap.size ≤ x) : Keeps bs a c :=
  ⟨k.os.trans h.os, k.tape.trans h.tape, k.output.trans h.output, Nat.le_trans h.size k.size, fun i hi hb =>
    (k.block i (Nat.lt_of_lt_of_le hi h.size) (fun e => by rcases hc i e with h1 | h1; exact hb h1; omega)).trans (h.block i hi hb)⟩

theorem Keeps.mono {bs cs : List Nat} {w w' : World} (h : Keeps bs w w') (hs : ∀ x ∈ bs, x ∈ cs ∨ w.heap.size ≤ x) : Keeps cs w w' :=
  ⟨h.os, h.tape, h.output, h.size, fun k hk hn => h.block k hk (fun e => by rcases hs k e with h1 | h1; exact hn h1; omega)⟩

theorem Keeps.drew {bs : List Nat} {a w : World} (h : Keeps bs a w) : Keeps bs a w.drew := ⟨h.os, h.tape, h.output, h.size, h.block⟩

theorem Keeps.alloc {bs : List Nat} {a w : World} (h : Keeps bs a w) (o : Obj) : Keeps bs a (w.alloc o) :=
  ⟨h.os, h.tape, h.output, by have := h.size; simp; omega, fun k hk hn => (hold w o k (by have := h.size; omega)).trans (h.block k hk hn)⟩

theorem Keeps.setCell {bs : List Nat} {a w : World} (h : Keeps bs a w) (p : Addr) (u : Value) (hp : p.block ∈ bs ∨ a.heap.size ≤ p.block) : Keeps bs a (w.setCell p u) :=
  ⟨h.os, h.tape, h.output, by have := h.size; simpa using this, fun k hk hn => (heap_setCell_other w p k u (fun e => by subst e; rcases hp with h1 | h1; exact hn h1; omega)).trans (h.block k hk hn)⟩

theorem Keeps.grown {bs : List Nat} {a w w' : World} {row : Option Nat} (h : Keeps bs a w) (hg : w.grownBy w' row) (hr : ∀ k, row = some k → k ∈ bs ∨ a.heap.size ≤ k) : Keeps bs a w' :=
  ⟨hg.os.trans h.os, hg.tape.trans h.tape, hg.output.trans h.output, Nat.le_trans h.size hg.size, fun k hk hn =>
    (hg.block k (Nat.lt_of_lt_of_le hk h.size) (fun e => by rcases hr k e.symm with h1 | h1; exact hn h1; omega)).trans (h.block k hk hn)⟩

theorem Keeps.below {bs : List Nat} {w w' : World} (h : Keeps bs w w') {B : Nat} (hB : B ≤ w.heap.size) (hb : ∀ x ∈ bs, B ≤ x) : Below B w w' :=
  ⟨h.os, h.tape, h.output, h.size, fun k hk => h.block k (by omega) (fun e => by have := hb k e; omega)⟩

theorem Keeps.cell {bs : List Nat} {w w' : World} (h : Keeps bs w w') {a : Addr} {v : Value} (hc : w.cell? a = some v) (hn : a.block ∉ bs) : w'.cell? a = some v :=
  (World.cell?_of_block (w := w) (h.block a.block (World.block_lt_of_cell? w a hc) hn)).trans hc

theorem Below.keepsNone {B : Nat} {w w' : World} (h : Below B w w') (hB : w.heap.size ≤ B) : Keeps [] w w' :=
  ⟨h.os, h.tape, h.output, h.size, fun k hk _ => h.block k (by omega)⟩

/-! ### a row of cells in one block -/

/-- Block b is a row of type t with room for cap elements of sz cells each; of the first n elements cell j holds f j. -/
structure RowAt (w : World) (b t sz n cap : Nat) (f : Nat → Value) : Prop where
  blk : ∃ arr : Array Value, w.heap[b]? = some (.cells arr t (0, 0)) ∧ arr.size = cap * sz ∧ ∀ j, j < n * sz → arr[j]? = some (f j)
  le : n ≤ cap
  cm : cap ≤ maxLen

section
variable {w w' : World} {b t sz n cap : Nat} {f g : Nat → Value}

theorem RowAt.cell (h : RowAt w b t sz n cap f) (j : Nat) (hj : j < n * sz) : w.cell? ⟨b, j, none⟩ = some (f j) := by
  obtain ⟨arr, h1, _, h3⟩ := h.blk
  rw [cell_of_row w b j arr t (0, 0) h1]; exact h3 j hj

theorem RowAt.frozen (h : RowAt w b t sz n cap f) (j : Nat) : w.frozen? ⟨b, j, none⟩ = false := by
  obtain ⟨arr, h1, _, _⟩ := h.blk
  exact frozen_of_row w b j arr t h1

theorem RowAt.lt (h : RowAt w b t sz n cap f) : b < w.heap.size := by
  obtain ⟨arr, h1, _, _⟩ := h.blk
  exact (Array.getElem?_eq_some_iff.1 h1).1

theorem RowAt.congr (h : RowAt w b t sz n cap f) (e : ∀ j, j < n * sz → f j = g j) : RowAt w b t sz n cap g := by
  obtain ⟨⟨arr, h1, h2, h3⟩, h4, h5⟩ := h
  exact ⟨⟨arr, h1, h2, fun j hj => by rw [h3 j hj, e j hj]⟩, h4, h5⟩

theorem RowAt.same (h : RowAt w b t sz n cap f) (e : w'.heap[b]? = w.heap[b]?) : RowAt w' b t sz n cap f := by
  obtain ⟨⟨arr, h1, h2, h3⟩, h4, h5⟩ := h
  exact ⟨⟨arr, e.trans h1, h2, h3⟩, h4, h5⟩

theorem RowAt.keeps {bs : List Nat} (h : RowAt w b t sz n cap f) (k : Keeps bs w w') (hn : b ∉ bs) : RowAt w' b t sz n cap f := h.same (k.block b h.lt hn)

theorem RowAt.drew (h : RowAt w b t sz n cap f) : RowAt w.drew b t sz n cap f := h.same rfl

theorem RowAt.alloc (h : RowAt w b t sz n cap f) (o : Obj) : RowAt (w.alloc o) b t sz n cap f := h.same (hold w o b h.lt)

theorem RowAt.setOther (h : RowAt w b t sz n cap f) (a : Addr) (u : Value) (hn : b ≠ a.block) : RowAt (w.setCell a u) b t sz n cap f := h.same (heap_setCell_other w a b u hn)

theorem RowAt.set (h : RowAt w b t sz n cap f) (i : Nat) (u : Value) : RowAt (w.setCell ⟨b, i, none⟩ u) b t sz n cap (fun j => if j = i then u else f j) := by
  obtain ⟨⟨arr, h1, h2, h3⟩, h4, h5⟩ := h
  refine ⟨⟨arr.setIfInBounds i u, heap_setCell_same w b i arr t u h1, by simpa using h2, fun j hj => ?_⟩, h4, h5⟩
  have hl : j < arr.size := by rw [h2]; exact Nat.lt_of_lt_of_le hj (Nat.mul_le_mul_right _ h4)
  by_cases e : j = i
  · subst e; simp [hl]
  · rw [Array.getElem?_setIfInBounds_ne (Ne.symm e), if_neg e]; exact h3 j hj

/-- fewer elements of the same row -/
theorem RowAt.take (h : RowAt w b t sz n cap f) {m : Nat} (hm : m ≤ n) : RowAt w b t sz m cap f := by
  obtain ⟨⟨arr, h1, h2, h3⟩, h4, h5⟩ := h
  exact ⟨⟨arr, h1, h2, fun j hj => h3 j (Nat.lt_of_lt_of_le hj (Nat.mul_le_mul_right _ hm))⟩, by omega, h5⟩

theorem RowAt.owns (h : RowAt w b t sz n cap f) : w.ownsRow 0 t sz (.slice (some ⟨b, 0, none⟩) n cap) n ((List.range (n * sz)).map f) := by
  obtain ⟨⟨arr, h1, h2, h3⟩, h4, h5⟩ := h
  refine ⟨by simp, .inr ⟨b, cap, arr, rfl, Nat.zero_le _, h1, h4, h5, h2, ?_⟩⟩
  apply List.ext_getElem?
  intro j
  by_cases hj : j < n * sz
  · rw [List.getElem?_take, if_pos hj]; simp [hj]; simpa using h3 j hj
  · rw [List.getElem?_take, if_neg hj]; simp [hj]

theorem RowAt.of_owns {base : Nat} {xs : List Value} (h : w.ownsRow base t sz (.slice (some ⟨b, 0, none⟩) n cap) n xs) (e : ∀ j, j < n * sz → xs[j]? = some (f j)) : RowAt w b t sz n cap f := by
  rcases h.2 with ⟨h', _⟩ | ⟨g', cap', cur, h', _, hg, hnc, hcm, hcs, htake⟩
  · simp at h'
  · simp only [Value.slice.injEq, Option.some.injEq, Addr.mk.injEq, and_true, true_and] at h'
    obtain ⟨rfl, rfl⟩ := h'
    refine ⟨⟨cur, hg, hcs, fun j hj => ?_⟩, hnc, hcm⟩
    have := e j hj
    rw [← htake, List.getElem?_take, if_pos hj] at this
    simpa using this

/-- a row as make lays it -/
theorem RowAt.made (w : World) (t sz n : Nat) (z : Array Value) (hz : z.size = sz) (hm : n ≤ maxLen) : RowAt (w.alloc (.cells (madeCells z (n * sz)) t)) w.heap.size t sz n n (fun j => z[j % sz]!) := by
  refine ⟨⟨madeCells z (n * sz), heap_alloc_new w _, size_madeCells _ _, fun j hj => ?_⟩, Nat.le_refl _, hm⟩
  simp [madeCells, hj, hz]

/-- a row as 'make([]T, 0, n)' lays it -/
theorem RowAt.made0 (w : World) (t sz n : Nat) (z : Array Value) (hm : n ≤ maxLen) : RowAt (w.alloc (.cells (madeCells z (n * sz)) t)) w.heap.size t sz 0 n f := by
  refine ⟨⟨madeCells z (n * sz), heap_alloc_new w _, size_madeCells _ _, fun j hj => by simp at hj⟩, Nat.zero_le _, hm⟩
end

/-! ### a slice that is read: an argument's, or a row of the call's own -/

/-- The slice of address a and length len leads to cells g 0, g 1, .. of block b from off on. -/
structure InRow (w : World) (b off : Nat) (a : Option Addr) (len sz : Nat) (g : Nat → Value) : Prop where
  addr : 0 < len → a = some ⟨b, off, none⟩
  lt : 0 < len → b < w.heap.size
  cell : ∀ j, j < len * sz → w.cell? ⟨b, off + j, none⟩ = some (g j)

theorem InRow.same {w w' : World} {b off : Nat} {a : Option Addr} {len sz : Nat} {g : Nat → Value} (h : InRow w b off a len sz g) (e : 0 < len → w'.heap[b]? = w.heap[b]?) (hs : w.heap.size ≤ w'.heap.size) : InRow w' b off a len sz g :=
  ⟨h.addr, fun hl => by have := h.lt hl; omega, fun j hj => by
    have hl : 0 < len := by rcases Nat.eq_zero_or_pos len with h0 | h0; (subst h0; simp at hj); exact h0
    rw [World.cell?_of_block (w := w) (e hl)]; exact h.cell j hj⟩

theorem InRow.keeps {w w' : World} {bs : List Nat} {b off : Nat} {a : Option Addr} {len sz : Nat} {g : Nat → Value} (h : InRow w b off a len sz g) (k : Keeps bs w w') (hn : 0 < len → b ∉ bs) : InRow w' b off a len sz g :=
  h.same (fun hl => k.block b (h.lt hl) (hn hl)) k.size

theorem InRow.below {w w' : World} {B b off : Nat} {a : Option Addr} {len sz : Nat} {g : Nat → Value} (h : InRow w b off a len sz g) (k : Below B w w') (hn : 0 < len → b < B) : InRow w' b off a len sz g :=
  h.same (fun hl => k.block b (hn hl)) k.size

theorem RowAt.inRow {w : World} {b t sz n cap : Nat} {f : Nat → Value} (h : RowAt w b t sz n cap f) : InRow w b 0 (some ⟨b, 0, none⟩) n sz f :=
  ⟨fun _ => rfl, fun _ => h.lt, fun j hj => by rw [Nat.zero_add]; exact h.cell j hj⟩

def InInts (k : IntKind) (w : World) (a : Option Addr) (len : Nat) (f : Nat → Int) : Prop :=
  (∃ b off, InRow w b off a len 1 (fun j => .int k (f j))) ∧ ∀ i, i < len → (Lit.int k (f i)).wf = true
def InBools (w : World) (a : Option Addr) (len : Nat) (f : Nat → Bool) : Prop := ∃ b off, InRow w b off a len 1 (fun j => .bool (f j))
/-- a slice of structs of numbers: field j of element i is g i j -/
def InStr (ks : List IntKind) (w : World) (a : Option Addr) (len : Nat) (g : Nat → Nat → Int) : Prop :=
  (∃ b off, InRow w b off a len ks.length (fun j => .int (ks.getD (j % ks.length) .i64) (g (j / ks.length) (j % ks.length)))) ∧ ∀ i j, i < len → j < ks.length → (Lit.int (ks.getD j .i64) (g i j)).wf = true

theorem wf_i64 {n : Int} (h : (Lit.int .i64 n).wf = true) : -9223372036854775808 ≤ n ∧ n ≤ 9223372036854775807 := by
  simp [Lit.wf, IntKind.min, IntKind.max, IntKind.signed, IntKind.bits] at h; omega
theorem wf_u64 {n : Int} (h : (Lit.int .u64 n).wf = true) : 0 ≤ n ∧ n ≤ 18446744073709551615 := by
  simp [Lit.wf, IntKind.min, IntKind.max, IntKind.signed, IntKind.bits] at h; omega
theorem wf_u8 {n : Int} (h : (Lit.int .u8 n).wf = true) : 0 ≤ n ∧ n ≤ 255 := by
  simp [Lit.wf, IntKind.min, IntKind.max, IntKind.signed, IntKind.bits] at h; omega
theorem wf_u16 {n : Int} (h : (Lit.int .u16 n).wf = true) : 0 ≤ n ∧ n ≤ 65535 := by
  simp [Lit.wf, IntKind.min, IntKind.max, IntKind.signed, IntKind.bits] at h; omega
theorem wf_u32 {n : Int} (h : (Lit.int .u32 n).wf = true) : 0 ≤ n ∧ n ≤ 4294967295 := by
  simp [Lit.wf, IntKind.min, IntKind.max, IntKind.signed, IntKind.bits] at h; omega

/-! ### the cells of nodes and entries -/

def upd (f : Nat → Int) (i : Nat) (v : Int) : Nat → Int := fun k => if k = i then v else f k
theorem upd_same (f : Nat → Int) (i : Nat) (v : Int) : upd f i v i = v := by simp [upd]
theorem upd_other (f : Nat → Int) (i k : Nat) (v : Int) (h : k ≠ i) : upd f i v k = f k := by simp [upd, h]

/-- a number of an int slice -/
def icell (f : Nat → Int) (j : Nat) : Value := .int .i64 (f j)
/-- cell j of a row of entries -/
def ecell (k v : Nat → Int) (j : Nat) : Value := .int .i64 (if j % 2 = 0 then k (j / 2) else v (j / 2))
/-- cell j of a row of nodes -/
def ncell (k v p n : Nat → Int) (j : Nat) : Value := .int .i64 (if j % 4 = 0 then k (j / 4) else if j % 4 = 1 then v (j / 4) else if j % 4 = 2 then p (j / 4) else n (j / 4))

theorem icell_set (f : Nat → Int) (i : Nat) (x : Int) (j : Nat) : (if j = i then Value.int .i64 x else icell f j) = icell (upd f i x) j := by
  unfold icell upd; split <;> rfl
theorem ecell_set0 (k v : Nat → Int) (i : Nat) (x : Int) (j : Nat) : (if j = i * 2 then Value.int .i64 x else ecell k v j) = ecell (upd k i x) v j := by
  unfold ecell upd
  by_cases h : j = i * 2
  · rw [if_pos h, if_pos (by omega), if_pos (by omega)]
  · rw [if_neg h]
    by_cases h2 : j % 2 = 0
    · rw [if_pos h2, if_pos h2, if_neg (by omega)]
    · rw [if_neg h2, if_neg h2]
theorem ecell_set1 (k v : Nat → Int) (i : Nat) (x : Int) (j : Nat) : (if j = i * 2 + 1 then Value.int .i64 x else ecell k v j) = ecell k (upd v i x) j := by
  unfold ecell upd
  by_cases h : j = i * 2 + 1
  · rw [if_pos h, if_neg (by omega), if_pos (by omega)]
  · rw [if_neg h]
    by_cases h2 : j % 2 = 0
    · rw [if_pos h2, if_pos h2]
    · rw [if_neg h2, if_neg h2, if_neg (by omega)]
theorem ncell_set0 (k v p n : Nat → Int) (i : Nat) (x : Int) (j : Nat) : (if j = i * 4 then Value.int .i64 x else ncell k v p n j) = ncell (upd k i x) v p n j := by
  unfold ncell upd
  by_cases h : j = i * 4
  · rw [if_pos h, if_pos (by omega), if_pos (by omega)]
  · rw [if_neg h]; congr 1
    by_cases h0 : j % 4 = 0
    · rw [if_pos h0, if_pos h0, if_neg (by omega)]
    · rw [if_neg h0, if_neg h0]
theorem ncell_set1 (k v p n : Nat → Int) (i : Nat) (x : Int) (j : Nat) : (if j = i * 4 + 1 then Value.int .i64 x else ncell k v p n j) = ncell k (upd v i x) p n j := by
  unfold ncell upd
  by_cases h : j = i * 4 + 1
  · rw [if_pos h, if_neg (by omega), if_pos (by omega), if_pos (by omega)]
  · rw [if_neg h]; congr 1
    by_cases h1 : j % 4 = 1
    · rw [if_pos h1, if_pos h1, if_neg (show ¬ j / 4 = i by omega)]
    · rw [if_neg h1, if_neg h1]
theorem ncell_set2 (k v p n : Nat → Int) (i : Nat) (x : Int) (j : Nat) : (if j = i * 4 + 2 then Value.int .i64 x else ncell k v p n j) = ncell k v (upd p i x) n j := by
  unfold ncell upd
  by_cases h : j = i * 4 + 2
  · rw [if_pos h, if_neg (by omega), if_neg (by omega), if_pos (by omega), if_pos (by omega)]
  · rw [if_neg h]; congr 1
    by_cases h1 : j % 4 = 2
    · rw [if_pos h1, if_pos h1, if_neg (show ¬ j / 4 = i by omega)]
    · rw [if_neg h1, if_neg h1]
theorem ncell_set3 (k v p n : Nat → Int) (i : Nat) (x : Int) (j : Nat) : (if j = i * 4 + 3 then Value.int .i64 x else ncell k v p n j) = ncell k v p (upd n i x) j := by
  unfold ncell upd
  by_cases h : j = i * 4 + 3
  · rw [if_pos h, if_neg (by omega), if_neg (by omega), if_neg (by omega), if_pos (by omega)]
  · rw [if_neg h]; congr 1
    by_cases h1 : j % 4 = 3
    · rw [if_neg (by omega), if_neg (by omega), if_neg (by omega), if_neg (by omega), if_neg (by omega), if_neg (by omega), if_neg (show ¬ j / 4 = i by omega)]
    · by_cases h2 : j % 4 = 0
      · rw [if_pos h2, if_pos h2]
      · rw [if_neg h2, if_neg h2]
        by_cases h3 : j % 4 = 1
        · rw [if_pos h3, if_pos h3]
        · rw [if_neg h3, if_neg h3, if_pos (by omega), if_pos (by omega)]

theorem ncell_0 (k v p n : Nat → Int) (i : Nat) : ncell k v p n (i * 4) = .int .i64 (k i) := by
  unfold ncell; rw [if_pos (by omega), show i * 4 / 4 = i by omega]
theorem ncell_1 (k v p n : Nat → Int) (i : Nat) : ncell k v p n (i * 4 + 1) = .int .i64 (v i) := by
  unfold ncell; rw [if_neg (by omega), if_pos (by omega), show (i * 4 + 1) / 4 = i by omega]
theorem ncell_2 (k v p n : Nat → Int) (i : Nat) : ncell k v p n (i * 4 + 2) = .int .i64 (p i) := by
  unfold ncell; rw [if_neg (by omega), if_neg (by omega), if_pos (by omega), show (i * 4 + 2) / 4 = i by omega]
theorem ncell_3 (k v p n : Nat → Int) (i : Nat) : ncell k v p n (i * 4 + 3) = .int .i64 (n i) := by
  unfold ncell; rw [if_neg (by omega), if_neg (by omega), if_neg (by omega), show (i * 4 + 3) / 4 = i by omega]
theorem ecell_0 (k v : Nat → Int) (i : Nat) : ecell k v (i * 2) = .int .i64 (k i) := by
  unfold ecell; rw [if_pos (by omega), show i * 2 / 2 = i by omega]
theorem ecell_1 (k v : Nat → Int) (i : Nat) : ecell k v (i * 2 + 1) = .int .i64 (v i) := by
  unfold ecell; rw [if_neg (by omega), show (i * 2 + 1) / 2 = i by omega]

/-- a whole slot is stored -/
theorem RowAt.setNode {w : World} {b t n cap : Nat} {k v p x : Nat → Int} (h : RowAt w b t 4 n cap (ncell k v p x)) (i : Nat) (a0 a1 a2 a3 : Int) :
    RowAt ((((w.setCell ⟨b, i * 4, none⟩ (.int .i64 a0)).setCell ⟨b, i * 4 + 1, none⟩ (.int .i64 a1)).setCell ⟨b, i * 4 + 2, none⟩ (.int .i64 a2)).setCell ⟨b, i * 4 + 3, none⟩ (.int .i64 a3)) b t 4 n cap (ncell (upd k i a0) (upd v i a1) (upd p i a2) (upd x i a3)) :=
  ((((((((h.set _ _).congr (fun j _ => ncell_set0 k v p x i a0 j)).set _ _).congr (fun j _ => ncell_set1 _ v p x i a1 j)).set _ _).congr (fun j _ => ncell_set2 _ _ p x i a2 j)).set _ _).congr (fun j _ => ncell_set3 _ _ _ x i a3 j))

theorem RowAt.setEntry {w : World} {b t n cap : Nat} {k v : Nat → Int} (h : RowAt w b t 2 n cap (ecell k v)) (i : Nat) (a0 a1 : Int) :
    RowAt ((w.setCell ⟨b, i * 2, none⟩ (.int .i64 a0)).setCell ⟨b, i * 2 + 1, none⟩ (.int .i64 a1)) b t 2 n cap (ecell (upd k i a0) (upd v i a1)) :=
  ((((h.set _ _).congr (fun j _ => ecell_set0 k v i a0 j)).set _ _).congr (fun j _ => ecell_set1 _ v i a1 j))

theorem RowAt.setInt {w : World} {b t n cap : Nat} {f : Nat → Int} (h : RowAt w b t 1 n cap (icell f)) (i : Nat) (a : Int) :
    RowAt (w.setCell ⟨b, i, none⟩ (.int .i64 a)) b t 1 n cap (icell (upd f i a)) := (h.set _ _).congr (fun j _ => icell_set f i a j)

/-- the first k of a row of numbers, the rest 0 -/
def part (k : Nat) (f : Nat → Int) : Nat → Int := fun i => if i < k then f i else 0
theorem part_step (k : Nat) (f : Nat → Int) (x : Int) (hx : x = f k) : upd (part k f) k x = part (k + 1) f := by
  subst hx
  funext i; unfold upd part
  by_cases h : i = k
  · subst h; simp
  · by_cases h2 : i < k
    · rw [if_neg h, if_pos h2, if_pos (by omega)]
    · rw [if_neg h, if_neg h2, if_neg (by omega)]

/-- the next slot of a row that is being filled is stored -/
theorem RowAt.stepNode {w : World} {b t n cap : Nat} {k v p x : Nat → Int} {m : Nat} (h : RowAt w b t 4 n cap (ncell (part m k) (part m v) (part m p) (part m x))) (a0 a1 a2 a3 : Int) (h0 : a0 = k m) (h1 : a1 = v m) (h2 : a2 = p m) (h3 : a3 = x m) :
    RowAt ((((w.setCell ⟨b, m * 4, none⟩ (.int .i64 a0)).setCell ⟨b, m * 4 + 1, none⟩ (.int .i64 a1)).setCell ⟨b, m * 4 + 2, none⟩ (.int .i64 a2)).setCell ⟨b, m * 4 + 3, none⟩ (.int .i64 a3)) b t 4 n cap (ncell (part (m + 1) k) (part (m + 1) v) (part (m + 1) p) (part (m + 1) x)) := by
  have := h.setNode m a0 a1 a2 a3
  rw [part_step m k a0 h0, part_step m v a1 h1, part_step m p a2 h2, part_step m x a3 h3] at this
  exact this
theorem RowAt.stepEntry {w : World} {b t n cap : Nat} {k v : Nat → Int} {m : Nat} (h : RowAt w b t 2 n cap (ecell (part m k) (part m v))) (a0 a1 : Int) (h0 : a0 = k m) (h1 : a1 = v m) :
    RowAt ((w.setCell ⟨b, m * 2, none⟩ (.int .i64 a0)).setCell ⟨b, m * 2 + 1, none⟩ (.int .i64 a1)) b t 2 n cap (ecell (part (m + 1) k) (part (m + 1) v)) := by
  have := h.setEntry m a0 a1
  rw [part_step m k a0 h0, part_step m v a1 h1] at this
  exact this
theorem RowAt.stepInt {w : World} {b t n cap : Nat} {f : Nat → Int} {m : Nat} (h : RowAt w b t 1 n cap (icell (part m f))) (a : Int) (h0 : a = f m) :
    RowAt (w.setCell ⟨b, m, none⟩ (.int .i64 a)) b t 1 n cap (icell (part (m + 1) f)) := by
  have := h.setInt m a
  rw [part_step m f a h0] at this
  exact this
/-- a row that is filled to its end -/
theorem RowAt.fullNode {w : World} {b t n cap m : Nat} {k v p x : Nat → Int} (h : RowAt w b t 4 n cap (ncell (part m k) (part m v) (part m p) (part m x))) (hm : n ≤ m) : RowAt w b t 4 n cap (ncell k v p x) :=
  h.congr fun j hj => by simp only [ncell, part]; rw [if_pos (show j / 4 < m by omega), if_pos (show j / 4 < m by omega), if_pos (show j / 4 < m by omega), if_pos (show j / 4 < m by omega)]
theorem RowAt.fullEntry {w : World} {b t n cap m : Nat} {k v : Nat → Int} (h : RowAt w b t 2 n cap (ecell (part m k) (part m v))) (hm : n ≤ m) : RowAt w b t 2 n cap (ecell k v) :=
  h.congr fun j hj => by simp only [ecell, part]; rw [if_pos (show j / 2 < m by omega), if_pos (show j / 2 < m by omega)]
theorem RowAt.fullInt {w : World} {b t n cap m : Nat} {f : Nat → Int} (h : RowAt w b t 1 n cap (icell (part m f))) (hm : n ≤ m) : RowAt w b t 1 n cap (icell f) :=
  h.congr fun j hj => by simp only [icell, part]; rw [if_pos (show j < m by omega)]

/-- make([]node, n), make([]Entry, n), make([]int, n): rows of zeros -/
theorem RowAt.madeNodes (w : World) (t n : Nat) (k v p x : Nat → Int) (hm : n ≤ maxLen) : RowAt (w.alloc (.cells (madeCells #[.int .i64 0, .int .i64 0, .int .i64 0, .int .i64 0] (n * 4)) t)) w.heap.size t 4 n n (ncell (part 0 k) (part 0 v) (part 0 p) (part 0 x)) :=
  (RowAt.made w t 4 n _ rfl hm).congr fun j _ => by
    have h4 : j % 4 < 4 := Nat.mod_lt _ (by omega)
    have : ncell (part 0 k) (part 0 v) (part 0 p) (part 0 x) j = .int .i64 0 := by simp [ncell, part]
    rw [this]
    match j % 4, h4 with
    | 0, _ => rfl
    | 1, _ => rfl
    | 2, _ => rfl
    | 3, _ => rfl
theorem RowAt.madeEntries (w : World) (t n : Nat) (k v : Nat → Int) (hm : n ≤ maxLen) : RowAt (w.alloc (.cells (madeCells #[.int .i64 0, .int .i64 0] (n * 2)) t)) w.heap.size t 2 n n (ecell (part 0 k) (part 0 v)) :=
  (RowAt.made w t 2 n _ rfl hm).congr fun j _ => by
    have h4 : j % 2 < 2 := Nat.mod_lt _ (by omega)
    have : ecell (part 0 k) (part 0 v) j = .int .i64 0 := by simp [ecell, part]
    rw [this]
    match j % 2, h4 with
    | 0, _ => rfl
    | 1, _ => rfl
theorem RowAt.madeInts (w : World) (t n : Nat) (f : Nat → Int) (hm : n ≤ maxLen) : RowAt (w.alloc (.cells (madeCells #[.int .i64 0] (n * 1)) t)) w.heap.size t 1 n n (icell (part 0 f)) :=
  (RowAt.made w t 1 n _ rfl hm).congr fun j _ => by
    rw [Nat.mod_one]
    have : icell (part 0 f) j = .int .i64 0 := by simp [icell, part]
    rw [this]; rfl

/-! ### the cache -/

/-- what a cache holds: n slots, each field of a slot by its index; the five numbers -/
structure Cs where
  n : Nat
  key : Nat → Int
  val : Nat → Int
  prev : Nat → Int
  next : Nat → Int
  head : Int
  tail : Int
  free : Int
  size : Int
  cap : Int

/-- The cache c lies in block cb, its slots in block nb (nb = cb: the slice of slots is nil). -/
structure CacheAt (w : World) (cb nb : Nat) (c : Cs) : Prop where
  nod : (nb = cb ∧ c.n = 0 ∧ w.cell? ⟨cb, 0, none⟩ = some (.slice none 0 0)) ∨
    (nb ≠ cb ∧ ∃ ncap, w.cell? ⟨cb, 0, none⟩ = some (.slice (some ⟨nb, 0, none⟩) c.n ncap) ∧ RowAt w nb 30 4 c.n ncap (ncell c.key c.val c.prev c.next))
  c1 : w.cell? ⟨cb, 1, none⟩ = some (.int .i64 c.head)
  c2 : w.cell? ⟨cb, 2, none⟩ = some (.int .i64 c.tail)
  c3 : w.cell? ⟨cb, 3, none⟩ = some (.int .i64 c.free)
  c4 : w.cell? ⟨cb, 4, none⟩ = some (.int .i64 c.size)
  c5 : w.cell? ⟨cb, 5, none⟩ = some (.int .i64 c.cap)
  fr : ∀ o, w.frozen? ⟨cb, o, none⟩ = false

section
variable {w w' : World} {cb nb : Nat} {c : Cs}

theorem CacheAt.lt (h : CacheAt w cb nb c) : cb < w.heap.size := World.block_lt_of_cell? w _ h.c1
theorem CacheAt.nlt (h : CacheAt w cb nb c) : nb < w.heap.size := by
  rcases h.nod with ⟨e, _, _⟩ | ⟨_, ncap, _, r⟩
  · rw [e]; exact h.lt
  · exact r.lt

/-- the slots, of a cache that has one -/
theorem CacheAt.row (h : CacheAt w cb nb c) (hn : 0 < c.n) : nb ≠ cb ∧ ∃ ncap, w.cell? ⟨cb, 0, none⟩ = some (.slice (some ⟨nb, 0, none⟩) c.n ncap) ∧ RowAt w nb 30 4 c.n ncap (ncell c.key c.val c.prev c.next) := by
  rcases h.nod with ⟨_, e, _⟩ | r
  · omega
  · exact r

/-- the slots' cells, as the walk reads them -/
theorem RowAt.nodes {b n cap : Nat} {k v p x : Nat → Int} (r : RowAt w b 30 4 n cap (ncell k v p x)) :
    (∀ i, i < n → w.cell? ⟨b, i * 4, none⟩ = some (.int .i64 (k i))) ∧ (∀ i, i < n → w.cell? ⟨b, i * 4 + 1, none⟩ = some (.int .i64 (v i))) ∧
    (∀ i, i < n → w.cell? ⟨b, i * 4 + 2, none⟩ = some (.int .i64 (p i))) ∧ (∀ i, i < n → w.cell? ⟨b, i * 4 + 3, none⟩ = some (.int .i64 (x i))) ∧ ∀ o, w.frozen? ⟨b, o, none⟩ = false :=
  ⟨fun i hi => by rw [r.cell _ (by omega), ncell_0], fun i hi => by rw [r.cell _ (by omega), ncell_1], fun i hi => by rw [r.cell _ (by omega), ncell_2], fun i hi => by rw [r.cell _ (by omega), ncell_3], r.frozen⟩

theorem CacheAt.same (h : CacheAt w cb nb c) (e1 : w'.heap[cb]? = w.heap[cb]?) (e2 : w'.heap[nb]? = w.heap[nb]?) : CacheAt w' cb nb c := by
  have k : ∀ o, w'.cell? ⟨cb, o, none⟩ = w.cell? ⟨cb, o, none⟩ := fun o => World.cell?_of_block e1
  refine ⟨?_, by rw [k]; exact h.c1, by rw [k]; exact h.c2, by rw [k]; exact h.c3, by rw [k]; exact h.c4, by rw [k]; exact h.c5, fun o => by rw [World.frozen?_of_block (w := w) e1]; exact h.fr o⟩
  rcases h.nod with ⟨e, h1, h2⟩ | ⟨h1, ncap, h2, h3⟩
  · exact .inl ⟨e, h1, by rw [k]; exact h2⟩
  · exact .inr ⟨h1, ncap, by rw [k]; exact h2, h3.same e2⟩

/-- the same fields at every slot -/
theorem CacheAt.congr {k v p x : Nat → Int} (h : CacheAt w cb nb c) (hk : ∀ i, i < c.n → c.key i = k i) (hv : ∀ i, i < c.n → c.val i = v i) (hp : ∀ i, i < c.n → c.prev i = p i) (hx : ∀ i, i < c.n → c.next i = x i) : CacheAt w cb nb { c with key := k, val := v, prev := p, next := x } := by
  refine ⟨?_, h.c1, h.c2, h.c3, h.c4, h.c5, h.fr⟩
  rcases h.nod with h0 | ⟨h1, ncap, h2, h3⟩
  · exact .inl h0
  · refine .inr ⟨h1, ncap, h2, h3.congr fun j hj => ?_⟩
    have : j / 4 < c.n := by omega
    simp only [ncell, hk _ this, hv _ this, hp _ this, hx _ this]

theorem CacheAt.keeps {bs : List Nat} (h : CacheAt w cb nb c) (k : Keeps bs w w') (h1 : cb ∉ bs) (h2 : nb ∉ bs) : CacheAt w' cb nb c :=
  h.same (k.block cb h.lt h1) (k.block nb h.nlt h2)

theorem CacheAt.drew (h : CacheAt w cb nb c) : CacheAt w.drew cb nb c := h.same rfl rfl
theorem CacheAt.alloc (h : CacheAt w cb nb c) (o : Obj) : CacheAt (w.alloc o) cb nb c := h.same (hold w o _ h.lt) (hold w o _ h.nlt)
theorem CacheAt.setOther (h : CacheAt w cb nb c) (a : Addr) (u : Value) (h1 : cb ≠ a.block) (h2 : nb ≠ a.block) : CacheAt (w.setCell a u) cb nb c :=
  h.same (heap_setCell_other w a cb u h1) (heap_setCell_other w a nb u h2)

theorem addr_ne_off {b i j : Nat} (h : i ≠ j) : (⟨b, i, none⟩ : Addr) ≠ ⟨b, j, none⟩ := fun e => h (congrArg Addr.off e)
theorem addr_ne_blk {b b' i j : Nat} (h : b ≠ b') : (⟨b, i, none⟩ : Addr) ≠ ⟨b', j, none⟩ := fun e => h (congrArg Addr.block e)

/-- a store into one of the five numbers -/
theorem CacheAt.setNum (h : CacheAt w cb nb c) (o : Nat) (x : Int) (ho : 1 ≤ o ∧ o ≤ 5) :
    CacheAt (w.setCell ⟨cb, o, none⟩ (.int .i64 x)) cb nb { c with head := if o = 1 then x else c.head, tail := if o = 2 then x else c.tail, free := if o = 3 then x else c.free, size := if o = 4 then x else c.size, cap := if o = 5 then x else c.cap } := by
  have k : ∀ (i : Nat) (v : Int), w.cell? ⟨cb, i, none⟩ = some (.int .i64 v) → (w.setCell ⟨cb, o, none⟩ (.int .i64 x)).cell? ⟨cb, i, none⟩ = some (.int .i64 (if o = i then x else v)) := by
    intro i v hv
    by_cases e : o = i
    · subst e; rw [if_pos rfl]; exact World.cell?_setCell_same _ _ _ hv
    · rw [if_neg e, World.cell?_setCell_other _ _ _ _ (addr_ne_off e)]; exact hv
  refine ⟨?_, k 1 _ h.c1, k 2 _ h.c2, k 3 _ h.c3, k 4 _ h.c4, k 5 _ h.c5, fun o => by rw [World.frozen?_setCell]; exact h.fr o⟩
  rcases h.nod with ⟨e, h1, h2⟩ | ⟨h1, ncap, h2, h3⟩
  · exact .inl ⟨e, h1, by rw [World.cell?_setCell_other _ _ _ _ (addr_ne_off (by omega))]; exact h2⟩
  · exact .inr ⟨h1, ncap, by rw [World.cell?_setCell_other _ _ _ _ (addr_ne_off (by omega))]; exact h2, h3.setOther _ _ h1⟩

theorem CacheAt.setHead (h : CacheAt w cb nb c) (x : Int) : CacheAt (w.setCell ⟨cb, 1, none⟩ (.int .i64 x)) cb nb { c with head := x } := h.setNum 1 x (by omega)
theorem CacheAt.setTail (h : CacheAt w cb nb c) (x : Int) : CacheAt (w.setCell ⟨cb, 2, none⟩ (.int .i64 x)) cb nb { c with tail := x } := h.setNum 2 x (by omega)
theorem CacheAt.setFree (h : CacheAt w cb nb c) (x : Int) : CacheAt (w.setCell ⟨cb, 3, none⟩ (.int .i64 x)) cb nb { c with free := x } := h.setNum 3 x (by omega)
theorem CacheAt.setSize (h : CacheAt w cb nb c) (x : Int) : CacheAt (w.setCell ⟨cb, 4, none⟩ (.int .i64 x)) cb nb { c with size := x } := h.setNum 4 x (by omega)
theorem CacheAt.setCap (h : CacheAt w cb nb c) (x : Int) : CacheAt (w.setCell ⟨cb, 5, none⟩ (.int .i64 x)) cb nb { c with cap := x } := h.setNum 5 x (by omega)

/-- a store into the row of slots -/
theorem CacheAt.setRowCell (h : CacheAt w cb nb c) (hn : 0 < c.n) (o : Nat) (u : Value) (k v p x : Nat → Int) (e : ∀ j, (if j = o then u else ncell c.key c.val c.prev c.next j) = ncell k v p x j) :
    CacheAt (w.setCell ⟨nb, o, none⟩ u) cb nb { c with key := k, val := v, prev := p, next := x } := by
  obtain ⟨hne, ncap, h2, h3⟩ := h.row hn
  have kk : ∀ i, (w.setCell ⟨nb, o, none⟩ u).cell? ⟨cb, i, none⟩ = w.cell? ⟨cb, i, none⟩ := fun i => World.cell?_setCell_other _ _ _ _ (addr_ne_blk hne)
  exact ⟨.inr ⟨hne, ncap, by rw [kk]; exact h2, (h3.set o u).congr (fun j _ => e j)⟩, by rw [kk]; exact h.c1, by rw [kk]; exact h.c2, by rw [kk]; exact h.c3, by rw [kk]; exact h.c4, by rw [kk]; exact h.c5, fun o => by rw [World.frozen?_setCell]; exact h.fr o⟩

theorem CacheAt.setKey (h : CacheAt w cb nb c) (hn : 0 < c.n) (i : Nat) (x : Int) : CacheAt (w.setCell ⟨nb, i * 4, none⟩ (.int .i64 x)) cb nb { c with key := upd c.key i x } := h.setRowCell hn _ _ _ _ _ _ (ncell_set0 _ _ _ _ i x)
theorem CacheAt.setVal (h : CacheAt w cb nb c) (hn : 0 < c.n) (i : Nat) (x : Int) : CacheAt (w.setCell ⟨nb, i * 4 + 1, none⟩ (.int .i64 x)) cb nb { c with val := upd c.val i x } := h.setRowCell hn _ _ _ _ _ _ (ncell_set1 _ _ _ _ i x)
theorem CacheAt.setPrev (h : CacheAt w cb nb c) (hn : 0 < c.n) (i : Nat) (x : Int) : CacheAt (w.setCell ⟨nb, i * 4 + 2, none⟩ (.int .i64 x)) cb nb { c with prev := upd c.prev i x } := h.setRowCell hn _ _ _ _ _ _ (ncell_set2 _ _ _ _ i x)
theorem CacheAt.setNext (h : CacheAt w cb nb c) (hn : 0 < c.n) (i : Nat) (x : Int) : CacheAt (w.setCell ⟨nb, i * 4 + 3, none⟩ (.int .i64 x)) cb nb { c with next := upd c.next i x } := h.setRowCell hn _ _ _ _ _ _ (ncell_set3 _ _ _ _ i x)
end

/-- a cache as it is boxed: six cells -/
theorem CacheAt.boxed {w : World} {nb n ncap : Nat} {k v p x : Nat → Int} (hd tl fr sz cp : Int) (r : RowAt w nb 30 4 n ncap (ncell k v p x)) :
    CacheAt (w.alloc (.cells #[.slice (some ⟨nb, 0, none⟩) n ncap, .int .i64 hd, .int .i64 tl, .int .i64 fr, .int .i64 sz, .int .i64 cp] 33)) w.heap.size nb ⟨n, k, v, p, x, hd, tl, fr, sz, cp⟩ := by
  have hlt := r.lt
  exact ⟨.inr ⟨by omega, ncap, by simp, r.alloc _⟩, by simp, by simp, by simp, by simp, by simp, fun o => by simp⟩

theorem CacheAt.boxedNil (w : World) (k v p x : Nat → Int) (hd tl fr sz cp : Int) :
    CacheAt (w.alloc (.cells #[.slice none 0 0, .int .i64 hd, .int .i64 tl, .int .i64 fr, .int .i64 sz, .int .i64 cp] 33)) w.heap.size w.heap.size ⟨0, k, v, p, x, hd, tl, fr, sz, cp⟩ :=
  ⟨.inl ⟨rfl, rfl, by simp⟩, by simp, by simp, by simp, by simp, by simp, fun o => by simp⟩

end Go.Proofs.Ymbrdw
