/- append of one element onto a slice of the call's own, over any program. -/
import Derived.Test.YmbrdwBase
import Derived.ArgAppend
namespace Go.Proofs.Ymbrdw
open Go.RowKit

/-- v is nil (n = 0), or the slice of the first n elements of a row of the call's own. -/
def SliceAt (w : World) (t sz : Nat) (v : Value) (n : Nat) (f : Nat → Value) : Prop :=
  (v = .slice none 0 0 ∧ n = 0) ∨ ∃ b cap, v = .slice (some ⟨b, 0, none⟩) n cap ∧ RowAt w b t sz n cap f

theorem SliceAt.nil (w : World) (t sz : Nat) (f : Nat → Value) : SliceAt w t sz (.slice none 0 0) 0 f := .inl ⟨rfl, rfl⟩
theorem RowAt.sliceAt {w : World} {b t sz n cap : Nat} {f : Nat → Value} (h : RowAt w b t sz n cap f) : SliceAt w t sz (.slice (some ⟨b, 0, none⟩) n cap) n f := .inr ⟨b, cap, rfl, h⟩
theorem SliceAt.keeps {w w' : World} {bs : List Nat} {t sz n : Nat} {v : Value} {f : Nat → Value} (h : SliceAt w t sz v n f) (k : Keeps bs w w') (hn : ∀ b, v.ownBlock = some b → b ∉ bs) : SliceAt w' t sz v n f := by
  rcases h with h | ⟨b, cap, rfl, r⟩
  · exact .inl h
  · exact .inr ⟨b, cap, rfl, r.keeps k (hn b rfl)⟩
theorem SliceAt.drew {w : World} {t sz n : Nat} {v : Value} {f : Nat → Value} (h : SliceAt w t sz v n f) : SliceAt w.drew t sz v n f := by
  rcases h with h | ⟨b, cap, rfl, r⟩
  · exact .inl h
  · exact .inr ⟨b, cap, rfl, r.drew⟩
theorem SliceAt.alloc {w : World} {t sz n : Nat} {v : Value} {f : Nat → Value} (h : SliceAt w t sz v n f) (o : Obj) : SliceAt (w.alloc o) t sz v n f := by
  rcases h with h | ⟨b, cap, rfl, r⟩
  · exact .inl h
  · exact .inr ⟨b, cap, rfl, r.alloc o⟩
theorem SliceAt.lt {w : World} {t sz n : Nat} {v : Value} {f : Nat → Value} (h : SliceAt w t sz v n f) : ∀ b, v.ownBlock = some b → b < w.heap.size := by
  rcases h with ⟨rfl, _⟩ | ⟨b, cap, rfl, r⟩
  · intro b hb; simp [Value.ownBlock] at hb
  · intro b' hb; simp [Value.ownBlock] at hb; subst hb; exact r.lt
theorem SliceAt.congr {w : World} {t sz n : Nat} {v : Value} {f g : Nat → Value} (h : SliceAt w t sz v n f) (e : ∀ j, j < n * sz → f j = g j) : SliceAt w t sz v n g := by
  rcases h with h | ⟨b, cap, rfl, r⟩
  · exact .inl h
  · exact .inr ⟨b, cap, rfl, r.congr e⟩
/-- a slice as it is read -/
theorem SliceAt.inRow {w : World} {t sz n : Nat} {v : Value} {f : Nat → Value} (h : SliceAt w t sz v n f) : ∃ a cap b, v = .slice a n cap ∧ InRow w b 0 a n sz f ∧ (0 < n → v.ownBlock = some b) := by
  rcases h with ⟨rfl, rfl⟩ | ⟨b, cap, rfl, r⟩
  · exact ⟨none, 0, 0, rfl, ⟨fun h => absurd h (by omega), fun h => absurd h (by omega), fun j hj => by simp at hj⟩, fun h => absurd h (by omega)⟩
  · exact ⟨_, cap, b, rfl, r.inRow, fun _ => rfl⟩

/-- the cells of a row with one element more -/
def snoc (sz n : Nat) (f : Nat → Value) (arr : Array Value) (j : Nat) : Value := if j < n * sz then f j else arr[j - n * sz]!

section
variable {P : Program} (w : World)

theorem run_append1 (t ty e : TypeId) (i : TypeInfo) (z : Value) (size bytes : Nat) (ht : P.underlying t = some (.slice e)) (hi : P.info? e = some i) (hz : i.zero = some z)
    (hsize : i.size = size) (hby : i.bytes = bytes) (hzs : z.cells.size = size) (hsz : 0 < size) (v : Value) (n : Nat) (f : Nat → Value) (hS : SliceAt w e size v n f)
    (b : Nat) (arr : Array Value) (u : TypeId) (hb : w.heap[b]? = some (.cells arr u (0, 0))) (ha : arr.size = size) (h1 : ∀ x ∈ arr.toList, x.oneCell' = true) (hn : n ≤ 10000000) (hbb : bytes ≤ 1000) :
    ∃ b' cap' w', (Builtin.append_ #[t, t] ty #[v, .slice (some ⟨b, 0, none⟩) 1 1]).run P w = .ok (.slice (some ⟨b', 0, none⟩) (n + 1) cap') w' ∧
      RowAt w' b' e size (n + 1) cap' (snoc size n f arr) ∧ Keeps v.ownBlock.toList w w' ∧ (v.ownBlock = some b' ∨ w.heap.size ≤ b') := by
  have hnews : ∀ (j : Nat) x, arr.toList[j]? = some x → w.cell? ((⟨b, 0, none⟩ : Addr).add j) = some x := fun j x hx => by
    rw [Addr.add_lit, Nat.zero_add, cell_of_row w b j arr u _ hb]; simpa using hx
  have hl : arr.toList.length = 1 * size := by simpa using ha
  have h63 : n + 1 ≤ maxLen := by unfold maxLen; omega
  have hbytes : (n + 1) * bytes ≤ 140737488355328 := by
    have := Nat.mul_le_mul (show n + 1 ≤ 10000001 by omega) hbb; omega
  have cellsEq : ∀ xs : List Value, xs = (List.range (n * size)).map f → ∀ j, j < (n + 1) * size → (xs ++ arr.toList)[j]? = some (snoc size n f arr j) := by
    intro xs hxs j hj
    have hxl : xs.length = n * size := by rw [hxs]; simp
    unfold snoc
    by_cases h : j < n * size
    · rw [if_pos h, List.getElem?_append_left (by omega), hxs]; simp [h]
    · rw [if_neg h, List.getElem?_append_right (by omega), hxl]
      have : j - n * size < arr.size := by rw [ha]; rw [Nat.add_mul] at hj; omega
      simp [this]
  rcases hS with ⟨rfl, rfl⟩ | ⟨b0, cap0, rfl, r⟩
  · obtain ⟨v', w', hr, ho, hg, _⟩ := run_append_own (P := P) w w.heap.size t ty e i z size bytes ht hi hz hsize hby hzs hsz _ 0 [] (World.ownsRow_nil _ _ _ _) ⟨b, 0, none⟩ 1 1 arr.toList hl hnews h1 h63 hbytes (Nat.le_refl _)
    rcases ho.2 with ⟨rfl, h⟩ | ⟨g, cap, cur, rfl, hg1, _⟩
    · omega
    · refine ⟨g, cap, w', hr, RowAt.of_owns ho (cellsEq [] (by simp)), ⟨hg.os, hg.tape, hg.output, hg.size, fun k hk _ => hg.block k hk (by simp [Value.ownBlock])⟩, .inr hg1⟩
  · have ho0 := r.owns
    by_cases hroom : n + 1 ≤ cap0
    · obtain ⟨w', hr, ho, hg⟩ := run_append_fits (P := P) w 0 t ty e i size ht hi hsize b0 n cap0 _ ho0 ⟨b, 0, none⟩ 1 1 arr.toList hl hnews h1 hroom
      exact ⟨b0, cap0, w', hr, RowAt.of_owns ho (cellsEq _ rfl), ⟨hg.os, hg.tape, hg.output, hg.size, fun k hk hk2 => hg.block k hk (fun e => hk2 (by simpa [Value.ownBlock] using e))⟩, .inl rfl⟩
    · obtain ⟨v', w', hr, ho, hg⟩ := run_append_arg_grows (P := P) w t ty e i z size bytes ht hi hz hsize hby hzs hsz ⟨b0, 0, none⟩ n cap0 ((List.range (n * size)).map f) (by simp) (ho0.cells (g := b0) rfl) ⟨b, 0, none⟩ 1 1 arr.toList hl hnews (by omega) h63 hbytes
      rcases ho.2 with ⟨rfl, h⟩ | ⟨g, cap, cur, rfl, hg1, _⟩
      · omega
      · exact ⟨g, cap, w', hr, RowAt.of_owns ho (cellsEq _ rfl), ⟨hg.os, hg.tape, hg.output, hg.size, fun k hk _ => hg.block k hk (by simp)⟩, .inr hg1⟩

theorem wp_append1 {ops : Array Oper} {rest : List Oper} {o : Oper} {a : Act} {Q : Exit → Act → World → Prop} (hgd : o.guard = none) (s x : Operand) (t : TypeId)
    (ho : o.op = .call { callee := .builtin .append, args := #[s, x], argTypes := #[t, t] })
    (e : TypeId) (i : TypeInfo) (z : Value) (size bytes : Nat) (ht : P.underlying t = some (.slice e)) (hi : P.info? e = some i) (hz : i.zero = some z)
    (hsize : i.size = size) (hby : i.bytes = bytes) (hzs : z.cells.size = size) (hsz : 0 < size) (v : Value) (n : Nat) (f : Nat → Value) (hs : a.eval s = v) (hS : SliceAt w e size v n f)
    (b : Nat) (hx : a.eval x = .slice (some ⟨b, 0, none⟩) 1 1) (arr : Array Value) (u : TypeId) (hb : w.heap[b]? = some (.cells arr u (0, 0))) (ha : arr.size = size) (h1 : ∀ x ∈ arr.toList, x.oneCell' = true) (hn : n ≤ 10000000) (hbb : bytes ≤ 1000)
    (h : ∀ b' cap' w', RowAt w' b' e size (n + 1) cap' (snoc size n f arr) → Keeps v.ownBlock.toList w w' → (v.ownBlock = some b' ∨ w.heap.size ≤ b') → wpList P ops Q rest (a.put o.dst (.slice (some ⟨b', 0, none⟩) (n + 1) cap')) w') : wpList P ops Q (o :: rest) a w := by
  refine wpList_plain hgd fun K hK => ?_
  obtain ⟨b', cap', w', hr, h2, h3, h4⟩ := run_append1 (P := P) w t o.type e i z size bytes ht hi hz hsize hby hzs hsz v n f hS b arr u hb ha h1 hn hbb
  unfold Oper.wp execOp
  simp only [ho, resolve, invoke, builtin, Sem.run_bind, Sem.run_pure, Result.andThen_ok, List.map_toArray, List.map_cons, List.map_nil, hs, hx, hr]
  exact hK _ _ (h b' cap' w' h2 h3 h4)
end

theorem snoc_ecell (n : Nat) (k v : Nat → Int) (x y : Int) (j : Nat) (hj : j < (n + 1) * 2) : snoc 2 n (ecell k v) #[.int .i64 x, .int .i64 y] j = ecell (upd k n x) (upd v n y) j := by
  unfold snoc ecell upd
  by_cases h : j < n * 2
  · rw [if_pos h, if_neg (show ¬ j / 2 = n by omega), if_neg (show ¬ j / 2 = n by omega)]
  · rw [if_neg h, if_pos (show j / 2 = n by omega), if_pos (show j / 2 = n by omega)]
    by_cases h0 : j % 2 = 0
    · rw [if_pos h0, show j - n * 2 = 0 by omega]; rfl
    · rw [if_neg h0, show j - n * 2 = 1 by omega]; rfl
theorem snoc_ncell (n : Nat) (k v p x : Nat → Int) (a0 a1 a2 a3 : Int) (j : Nat) (hj : j < (n + 1) * 4) : snoc 4 n (ncell k v p x) #[.int .i64 a0, .int .i64 a1, .int .i64 a2, .int .i64 a3] j = ncell (upd k n a0) (upd v n a1) (upd p n a2) (upd x n a3) j := by
  unfold snoc ncell upd
  by_cases h : j < n * 4
  · rw [if_pos h, if_neg (show ¬ j / 4 = n by omega), if_neg (show ¬ j / 4 = n by omega), if_neg (show ¬ j / 4 = n by omega), if_neg (show ¬ j / 4 = n by omega)]
  · rw [if_neg h, if_pos (show j / 4 = n by omega), if_pos (show j / 4 = n by omega), if_pos (show j / 4 = n by omega), if_pos (show j / 4 = n by omega)]
    by_cases h0 : j % 4 = 0
    · rw [if_pos h0, show j - n * 4 = 0 by omega]; rfl
    · rw [if_neg h0]
      by_cases h1 : j % 4 = 1
      · rw [if_pos h1, show j - n * 4 = 1 by omega]; rfl
      · rw [if_neg h1]
        by_cases h2 : j % 4 = 2
        · rw [if_pos h2, show j - n * 4 = 2 by omega]; rfl
        · rw [if_neg h2, show j - n * 4 = 3 by omega]; rfl
theorem snoc_icell (n : Nat) (f : Nat → Int) (x : Int) (j : Nat) (hj : j < (n + 1) * 1) : snoc 1 n (icell f) #[.int .i64 x] j = icell (upd f n x) j := by
  unfold snoc icell upd
  by_cases h : j < n * 1
  · rw [if_pos h, if_neg (show ¬ j = n by omega)]
  · rw [if_neg h, if_pos (show j = n by omega), show j - n * 1 = 0 by omega]; rfl
end Go.Proofs.Ymbrdw
