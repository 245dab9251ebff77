/- Plain lists of entries: an entry put, fetched, removed is a filter; what puts alone leave. No Go in sight. -/
import Derived.Test.YmbrdvScript
namespace Go.Proofs.Ymbrdv

/-- the entries with other keys -/
def wo (key : Int) (M : List (Int × Int)) : List (Int × Int) := M.filter fun e => decide (e.1 ≠ key)

theorem wo_cons_same {key : Int} {e : Int × Int} (h : e.1 = key) (t : List (Int × Int)) : wo key (e :: t) = wo key t := by simp [wo, h]
theorem wo_cons_other {key : Int} {e : Int × Int} (h : e.1 ≠ key) (t : List (Int × Int)) : wo key (e :: t) = e :: wo key t := by simp [wo, h]
theorem wo_nil (key : Int) : wo key [] = [] := rfl
theorem wo_append (key : Int) (A B : List (Int × Int)) : wo key (A ++ B) = wo key A ++ wo key B := List.filter_append ..
theorem wo_reverse (key : Int) (A : List (Int × Int)) : wo key A.reverse = (wo key A).reverse := List.filter_reverse ..
theorem mem_wo {key : Int} {M : List (Int × Int)} {e : Int × Int} : e ∈ wo key M ↔ e ∈ M ∧ e.1 ≠ key := by simp [wo]

theorem idx_none_iff {key : Int} : ∀ {M : List (Int × Int)}, idx key M = none ↔ ∀ e ∈ M, e.1 ≠ key
  | [] => by simp [idx]
  | e :: t => by
    unfold idx
    by_cases h : e.1 = key
    · simp [h]
    · rw [if_neg h]; simp [idx_none_iff (M := t), h]
theorem wo_of_none {key : Int} {M : List (Int × Int)} (h : idx key M = none) : wo key M = M := by
  unfold wo; rw [List.filter_eq_self]; intro e he; simpa using idx_none_iff.1 h e he
theorem idx_some {key : Int} : ∀ {M : List (Int × Int)} {k : Nat}, idx key M = some k → ∃ e, M[k]? = some e ∧ e.1 = key ∧ ∀ j x, j < k → M[j]? = some x → x.1 ≠ key
  | [], k, h => by simp [idx] at h
  | e :: t, k, h => by
    unfold idx at h
    split at h
    · rename_i he; simp at h; subst h; exact ⟨e, rfl, he, fun j x hj => absurd hj (by omega)⟩
    · rename_i he
      obtain ⟨k', hk', rfl⟩ := Option.map_eq_some_iff.1 h
      obtain ⟨x, h1, h2, h3⟩ := idx_some hk'
      refine ⟨x, by simpa using h1, h2, fun j y hj hy => ?_⟩
      cases j with
      | zero => simp at hy; subst hy; exact he
      | succ j => exact h3 j y (by omega) (by simpa using hy)

/-- of different keys the first that fits is the only one -/
theorem wo_of_some {key : Int} : ∀ {M : List (Int × Int)} {k : Nat}, (M.map Prod.fst).Nodup → idx key M = some k → wo key M = M.eraseIdx k
  | [], k, _, h => by simp [idx] at h
  | e :: t, k, hn, h => by
    unfold idx at h
    rw [List.map_cons, List.nodup_cons] at hn
    split at h
    · rename_i he; simp at h; subst h
      rw [wo_cons_same he, List.eraseIdx_cons_zero]
      refine wo_of_none (idx_none_iff.2 fun x hx e' => hn.1 ?_)
      rw [he, ← e']; exact List.mem_map.2 ⟨x, hx, rfl⟩
    · rename_i he
      obtain ⟨k', hk', rfl⟩ := Option.map_eq_some_iff.1 h
      rw [wo_cons_other he, List.eraseIdx_cons_succ, wo_of_some hn.2 hk']

theorem mremove_wo {M : List (Int × Int)} (hn : (M.map Prod.fst).Nodup) (key : Int) : mremove M key = wo key M := by
  unfold mremove
  cases h : idx key M with
  | none => exact (wo_of_none h).symm
  | some k => exact (wo_of_some hn h).symm
theorem mget_wo {M : List (Int × Int)} (hn : (M.map Prod.fst).Nodup) (key : Int) : mget M key = if idx key M = none then M else (key, mpeek M key) :: wo key M := by
  unfold mget mpeek
  cases h : idx key M with
  | none => simp
  | some k =>
    obtain ⟨e, h1, h2, _⟩ := idx_some h
    simp only [reduceCtorEq, if_false]
    rw [wo_of_some hn h]
    have : M.getD k (0, 0) = e := by simp [List.getD, h1]
    rw [this, ← h2]
theorem mput_wo {M : List (Int × Int)} (hn : (M.map Prod.fst).Nodup) (cap : Int) (hc : cap ≠ 0) (hl : (M.length : Int) ≤ cap) (k v : Int) : mput cap M k v = ((k, v) :: wo k M).take cap.toNat := by
  unfold mput
  rw [if_neg hc]
  have hc1 : 0 < cap := by omega
  cases h : idx k M with
  | none =>
    rw [wo_of_none h]
    dsimp only
    obtain ⟨n, hnn⟩ : ∃ n : Nat, cap = n + 1 := ⟨cap.toNat - 1, by omega⟩
    rw [show cap.toNat = n + 1 by omega, List.take_succ_cons]
    by_cases e : (M.length : Int) = cap
    · rw [if_pos e, List.dropLast_eq_take, show M.length - 1 = n by omega]
    · rw [if_neg e, List.take_of_length_le (by omega)]
  | some j =>
    rw [wo_of_some hn h]
    have hj : j < M.length := by obtain ⟨e, h1, _, _⟩ := idx_some h; exact (List.getElem?_eq_some_iff.1 h1).1
    dsimp only
    rw [List.take_of_length_le]
    rw [List.length_cons, List.length_eraseIdx_of_lt hj]; omega

/-! ### what puts alone leave -/

/-- no later entry has the key of entry i -/
def keepB (len : Nat) (K : Nat → Int) (i : Nat) : Bool := (List.range len).all fun j => !(decide (i < j) && decide (K j = K i))
theorem keepB_iff {len : Nat} {K : Nat → Int} {i : Nat} : keepB len K i = true ↔ ∀ j, i < j → j < len → K j ≠ K i := by
  unfold keepB
  simp only [List.all_eq_true, List.mem_range, Bool.not_eq_true', Bool.and_eq_false_iff, decide_eq_false_iff_not]
  constructor
  · intro h j h1 h2
    rcases h j h2 with h3 | h3
    · exact absurd h1 h3
    · exact h3
  · intro h j hj
    by_cases h1 : i < j
    · exact .inr (h j h1 hj)
    · exact .inl h1
theorem keepB_succ (len : Nat) (K : Nat → Int) (i : Nat) (hi : i < len) : keepB (len + 1) K i = (keepB len K i && decide (K i ≠ K len)) := by
  rw [Bool.eq_iff_iff, Bool.and_eq_true, keepB_iff, keepB_iff, decide_eq_true_iff]
  constructor
  · intro h; exact ⟨fun j h1 h2 => h j h1 (by omega), fun e => h len hi (by omega) e.symm⟩
  · rintro ⟨h1, h2⟩ j h3 h4
    by_cases e : j = len
    · subst e; exact fun e => h2 e.symm
    · exact h1 j h3 (by omega)

/-- the entries whose key does not come again later -/
def lastOcc (len : Nat) (K V : Nat → Int) : List (Int × Int) := ((List.range len).filter (keepB len K)).map fun i => (K i, V i)
theorem lastOcc_succ (len : Nat) (K V : Nat → Int) : lastOcc (len + 1) K V = wo (K len) (lastOcc len K V) ++ [(K len, V len)] := by
  unfold lastOcc wo
  have hk : keepB (len + 1) K len = true := keepB_iff.2 fun j h1 h2 => absurd h1 (by omega)
  rw [List.range_succ, List.filter_append, List.map_append, List.filter_map]
  have e : (List.range len).filter (keepB (len + 1) K) = ((List.range len).filter (keepB len K)).filter (fun i => decide (K i ≠ K len)) := by
    rw [List.filter_filter]
    refine List.filter_congr fun i hi => ?_
    rw [keepB_succ len K i (List.mem_range.1 hi), Bool.and_comm]
  rw [e]
  simp [hk]

theorem nodup_wo {M : List (Int × Int)} (h : (M.map Prod.fst).Nodup) (key : Int) : ((wo key M).map Prod.fst).Nodup := h.sublist (List.Sublist.map _ List.filter_sublist)
theorem lastOcc_nodup (K V : Nat → Int) : ∀ len, ((lastOcc len K V).map Prod.fst).Nodup
  | 0 => by simp [lastOcc]
  | len + 1 => by
    rw [lastOcc_succ, List.map_append, List.nodup_append]
    refine ⟨nodup_wo (lastOcc_nodup K V len) _, by simp, ?_⟩
    intro a ha b hb e
    obtain ⟨x, hx, rfl⟩ := List.mem_map.1 ha
    simp at hb
    exact (mem_wo.1 hx).2 (by rw [← hb, ← e])

theorem take_wo {key : Int} : ∀ {R : List (Int × Int)} {c : Nat}, (R.map Prod.fst).Nodup → (wo key (R.take (c + 1))).take c = (wo key R).take c
  | [], c, _ => by simp
  | e :: t, c, h => by
    rw [List.map_cons, List.nodup_cons] at h
    rw [List.take_succ_cons]
    by_cases he : e.1 = key
    · rw [wo_cons_same he, wo_cons_same he]
      have h0 : idx key t = none := idx_none_iff.2 fun x hx e' => h.1 (by rw [he, ← e']; exact List.mem_map.2 ⟨x, hx, rfl⟩)
      have h1 : idx key (t.take c) = none := idx_none_iff.2 fun x hx => idx_none_iff.1 h0 x (List.mem_of_mem_take hx)
      rw [wo_of_none h0, wo_of_none h1, List.take_take, Nat.min_self]
    · rw [wo_cons_other he, wo_cons_other he]
      cases c with
      | zero => simp
      | succ c => rw [List.take_succ_cons, List.take_succ_cons, take_wo h.2]

/-- the cache's list behind the first n puts -/
def pplay (cap : Int) (K V : Nat → Int) : Nat → List (Int × Int)
  | 0 => []
  | n + 1 => mput cap (pplay cap K V n) (K n) (V n)
theorem pplay_eq (cap : Int) (hc : 0 ≤ cap) (K V : Nat → Int) : ∀ n, pplay cap K V n = (lastOcc n K V).reverse.take cap.toNat
  | 0 => by simp [pplay, lastOcc]
  | n + 1 => by
    show mput cap (pplay cap K V n) (K n) (V n) = _
    rw [pplay_eq cap hc K V n, lastOcc_succ, List.reverse_append, List.reverse_singleton, List.singleton_append]
    by_cases h0 : cap = 0
    · subst h0; simp [mput]
    · obtain ⟨c, hcc⟩ : ∃ c : Nat, cap = c + 1 := ⟨cap.toNat - 1, by omega⟩
      have hnd : (((lastOcc n K V).reverse).map Prod.fst).Nodup := by rw [List.map_reverse]; exact (List.reverse_perm _).nodup_iff.2 (lastOcc_nodup K V n)
      rw [mput_wo (by rw [List.map_take]; exact hnd.sublist (List.take_sublist _ _)) cap h0 (by rw [List.length_take]; omega)]
      rw [show cap.toNat = c + 1 by omega, List.take_succ_cons, List.take_succ_cons, take_wo hnd, wo_reverse]

theorem eK_snoc (W : List (Int × Int)) (e : Int × Int) (j : Nat) : upd (eK W) W.length e.1 j = (if j ≤ W.length then eK (W ++ [e]) j else eK W j) ∧ upd (eV W) W.length e.2 j = (if j ≤ W.length then eV (W ++ [e]) j else eV W j) := by
  unfold upd eK eV
  by_cases h : j = W.length
  · subst h; simp [List.getD]
  · by_cases h2 : j < W.length
    · rw [if_neg h, if_neg h, if_pos (by omega), if_pos (by omega)]
      simp [List.getD, List.getElem?_append_left h2]
    · rw [if_neg h, if_neg h, if_neg (by omega), if_neg (by omega)]; exact ⟨rfl, rfl⟩
/-- a list of entries in memory with one entry more -/
theorem RowAt.snocE {w : World} {b t cap : Nat} {W : List (Int × Int)} {x y : Int} (r : RowAt w b t 2 (W.length + 1) cap (snoc 2 W.length (ecell (eK W) (eV W)) #[.int .i64 x, .int .i64 y])) : RowAt w b t 2 (W ++ [(x, y)]).length cap (ecell (eK (W ++ [(x, y)])) (eV (W ++ [(x, y)]))) := by
  rw [List.length_append]
  refine r.congr fun j hj => ?_
  rw [snoc_ecell _ _ _ _ _ j hj]
  unfold ecell
  have h := eK_snoc W (x, y) (j / 2)
  rw [if_pos (by omega), if_pos (by omega)] at h
  rw [h.1, h.2]

/-- those of the first k entries whose key does not come again later in all -/
def lastPart (len : Nat) (K V : Nat → Int) (k : Nat) : List (Int × Int) := ((List.range k).filter (keepB len K)).map fun i => (K i, V i)
theorem lastPart_yes {len k : Nat} {K V : Nat → Int} (h : keepB len K k = true) : lastPart len K V (k + 1) = lastPart len K V k ++ [(K k, V k)] := by
  unfold lastPart; rw [List.range_succ, List.filter_append, List.map_append]; simp [h]
theorem lastPart_no {len k : Nat} {K V : Nat → Int} (h : keepB len K k = false) : lastPart len K V (k + 1) = lastPart len K V k := by
  unfold lastPart; rw [List.range_succ, List.filter_append, List.map_append]; simp [h]
theorem lastPart_le (len k : Nat) (K V : Nat → Int) : (lastPart len K V k).length ≤ k := by
  unfold lastPart; rw [List.length_map]; exact Nat.le_trans (List.length_filter_le _ _) (by simp)
end Go.Proofs.Ymbrdv
