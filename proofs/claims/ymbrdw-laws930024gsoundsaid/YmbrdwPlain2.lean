/- The plain laws on whole caches: list, free list, keys; what each operation does to the list of entries. No Go in sight. -/
import Derived.Test.YmbrdwCore3
namespace Go.Proofs.Ymbrdw
open Go.RowKit

theorem ne_of_mem {x y : Nat} {A : List Nat} (h1 : y ∈ A) (h2 : x ∉ A) : y ≠ x := fun e => h2 (e ▸ h1)

/-- A whole cache: its list L, its free list F. -/
structure Inv (c : Cs) (L F : List Nat) : Prop where
  ch : Ch c L
  nd : (L ++ F).Nodup
  flt : ∀ x ∈ F, x < c.n
  free : c.free = nth F 0
  fnext : ∀ k x, F[k]? = some x → c.next x = nth F (k + 1)
  cnt : c.n = L.length + F.length
  keys : (L.map c.key).Nodup
  ncap : (c.n : Int) ≤ c.cap

/-- the entries of the list, in order -/
def ents (c : Cs) (L : List Nat) : List (Int × Int) := L.map fun x => (c.key x, c.val x)

section
variable {c : Cs} {L F : List Nat}

theorem Inv.len_le (h : Inv c L F) : L.length ≤ c.n := by have := h.cnt; omega
theorem Inv.free_ok (h : Inv c L F) : c.free = -1 ∨ ∃ i : Nat, c.free = i ∧ i < c.n := by
  rw [h.free]
  rcases nth_cases F 0 with ⟨_, e⟩ | ⟨_, x, hx, e⟩
  · exact .inl e
  · exact .inr ⟨x, e, h.flt x (List.mem_of_getElem? hx)⟩
theorem Inv.disj (h : Inv c L F) {x : Nat} (h1 : x ∈ L) (h2 : x ∈ F) : False := (List.nodup_append.1 h.nd).2.2 x h1 x h2 rfl
theorem Inv.fnd (h : Inv c L F) : F.Nodup := (List.nodup_append.1 h.nd).2.1

theorem Inv.new (n : Int) : Inv (Cs.new n) [] [] :=
  ⟨⟨List.nodup_nil, by simp, rfl, rfl, by simp, by simp, rfl⟩, by simp, by simp, rfl, by simp, rfl, by simp, by simp [Cs.new]; omega⟩

theorem mem_of_idx' {L : List Nat} {k i : Nat} (h : L[k]? = some i) : i ∈ L := List.mem_of_getElem? h

/-! ### which fields an operation leaves -/

theorem unlink_key (c : Cs) (i : Nat) : (c.unlink i).key = c.key := rfl
theorem unlink_val (c : Cs) (i : Nat) : (c.unlink i).val = c.val := rfl
theorem pushFront_key (c : Cs) (i : Nat) : (c.pushFront i).key = c.key := by unfold Cs.pushFront; split <;> rfl
theorem pushFront_val (c : Cs) (i : Nat) : (c.pushFront i).val = c.val := by unfold Cs.pushFront; split <;> rfl
theorem pushFront_n (c : Cs) (i : Nat) : (c.pushFront i).n = c.n := by unfold Cs.pushFront; split <;> rfl
theorem pushFront_cap (c : Cs) (i : Nat) : (c.pushFront i).cap = c.cap := by unfold Cs.pushFront; split <;> rfl
theorem pushFront_free (c : Cs) (i : Nat) : (c.pushFront i).free = c.free := by unfold Cs.pushFront; split <;> rfl
theorem pushFront_next (c : Cs) (i : Nat) {y : Nat} (h : y ≠ i) : (c.pushFront i).next y = c.next y := by unfold Cs.pushFront; split <;> exact upd_other _ _ _ _ h

/-- a slot outside the list keeps its next when another is unlinked -/
theorem Ch.unlink_next (h : Ch c L) {k i y : Nat} (hk : L[k]? = some i) (hy : y ∉ L) : (c.unlink i).next y = c.next y := by
  unfold Cs.unlink
  dsimp only
  rw [h.prev k i hk]
  split
  · rfl
  · rename_i h1
    have : prv L k = nth L (k - 1) := by unfold prv; rw [if_neg]; intro e; apply h1; unfold prv; rw [if_pos e]
    rw [this] at h1 ⊢
    rcases nth_cases L (k - 1) with ⟨_, e⟩ | ⟨_, x, hx, e⟩
    · exact absurd e h1
    · rw [e, Int.toNat_natCast, upd_other _ _ _ _ (Ne.symm (ne_of_mem (mem_of_idx' hx) hy))]

theorem nodup_eraseIdx_append (h : (L ++ F).Nodup) (k : Nat) : (L.eraseIdx k ++ F).Nodup := h.sublist (List.Sublist.append (List.eraseIdx_sublist L k) (List.Sublist.refl F))

theorem mem_of_idx {L : List Nat} {k i : Nat} (h : L[k]? = some i) : i ∈ L := List.mem_of_getElem? h
theorem length_eraseIdx' {L : List Nat} {k i : Nat} (h : L[k]? = some i) : (L.eraseIdx k).length + 1 = L.length := by
  have := (List.getElem?_eq_some_iff.1 h).1
  rw [List.length_eraseIdx_of_lt this]; omega

/-- the slot at place k is brought to the head -/
theorem Inv.front (h : Inv c L F) {k x : Nat} (hk : L[k]? = some x) (hn : c.n ≤ 1000000) : Inv ((c.unlink x).pushFront x) (x :: L.eraseIdx k) F := by
  have hl := h.len_le
  have hx := mem_of_idx hk
  have u := h.ch.unlink hk (by omega)
  have hnm := eraseIdx_not_mem h.ch.nd hk
  have hle := length_eraseIdx' hk
  have p := u.pushFront (i := x) (h.ch.lt x hx) hnm (by omega)
  have hnd := nodup_eraseIdx_append h.nd k
  refine ⟨p, ?_, ?_, ?_, ?_, ?_, ?_, ?_⟩
  · rw [List.cons_append, List.nodup_cons]
    refine ⟨fun hm => ?_, hnd⟩
    rcases List.mem_append.1 hm with h1 | h1
    · exact hnm h1
    · exact h.disj hx h1
  · rw [pushFront_n]; exact h.flt
  · rw [pushFront_free]; exact h.free
  · intro j y hj
    have hy := mem_of_idx hj
    rw [pushFront_next _ _ (ne_of_mem hy (fun hm => h.disj hx hm)), h.ch.unlink_next hk (fun hm => h.disj hm hy)]
    exact h.fnext j y hj
  · rw [pushFront_n]; show c.n = _; rw [List.length_cons, hle]; exact h.cnt
  · rw [pushFront_key, unlink_key, List.map_cons, List.nodup_cons]
    have hk' : (L.map c.key)[k]? = some (c.key x) := by rw [List.getElem?_map, hk]; rfl
    refine ⟨fun hm => ?_, h.keys.sublist ((List.eraseIdx_sublist L k).map _)⟩
    obtain ⟨y, hy, e⟩ := List.mem_map.1 hm
    obtain ⟨j, hj⟩ := List.getElem?_of_mem hy
    rw [List.getElem?_eraseIdx] at hj
    have hpw := List.pairwise_iff_getElem.1 h.keys
    have key : ∀ j', L[j']? = some y → j' ≠ k → False := fun j' hj' hne => by
      obtain ⟨l1, g1⟩ := List.getElem?_eq_some_iff.1 hj'
      obtain ⟨l2, g2⟩ := List.getElem?_eq_some_iff.1 hk
      rcases Nat.lt_or_gt_of_ne hne with hlt | hlt
      · exact hpw j' k (by simpa using l1) (by simpa using l2) hlt (by simp [g1, g2, e])
      · exact hpw k j' (by simpa using l2) (by simpa using l1) hlt (by simp [g1, g2, e])
    split at hj
    · exact key j hj (by omega)
    · exact key (j + 1) hj (by omega)
  · rw [pushFront_n, pushFront_cap]; exact h.ncap

/-- the slot at place k is dropped -/
theorem Inv.drop (h : Inv c L F) {k x : Nat} (hk : L[k]? = some x) (hn : c.n ≤ 1000000) : Inv (c.drop x) (L.eraseIdx k) (x :: F) := by
  have hl := h.len_le
  have hx := mem_of_idx hk
  have d := h.ch.drop hk (by omega)
  have hnm := eraseIdx_not_mem h.ch.nd hk
  have hle := length_eraseIdx' hk
  refine ⟨d, ?_, ?_, ?_, ?_, ?_, ?_, ?_⟩
  · rw [List.nodup_append]
    have a := List.nodup_append.1 (nodup_eraseIdx_append h.nd k)
    refine ⟨a.1, List.nodup_cons.2 ⟨fun hm => h.disj hx hm, a.2.1⟩, fun y hy z hz e => ?_⟩
    subst e
    rcases List.mem_cons.1 hz with rfl | hz
    · exact hnm hy
    · exact h.disj (List.mem_of_mem_eraseIdx hy) hz
  · intro y hy
    rcases List.mem_cons.1 hy with rfl | hy
    · exact h.ch.lt _ hx
    · exact h.flt y hy
  · show (x : Int) = _; rw [nth_cons_zero]
  · intro j y hj
    show upd (c.unlink x).next x c.free y = _
    cases j with
    | zero => simp at hj; subst hj; rw [upd_same, nth_cons_succ]; exact h.free
    | succ j =>
      have hj' : F[j]? = some y := by simpa using hj
      have hy := mem_of_idx hj'
      rw [upd_other _ _ _ _ (ne_of_mem hy (fun hm => h.disj hx hm)), h.ch.unlink_next hk (fun hm => h.disj hm hy), nth_cons_succ]
      exact h.fnext j y hj'
  · show c.n = _; rw [List.length_cons]; have := h.cnt; omega
  · have e : (L.eraseIdx k).map (c.drop x).key = (L.eraseIdx k).map c.key := List.map_congr_left fun y hy => by
      show upd c.key x 0 y = _
      exact upd_other _ _ _ _ (fun e => hnm (e ▸ hy))
    rw [e]; exact h.keys.sublist ((List.eraseIdx_sublist L k).map _)
  · exact h.ncap

theorem ents_congr {c' : Cs} (h : ∀ x ∈ L, c'.key x = c.key x ∧ c'.val x = c.val x) : ents c' L = ents c L := List.map_congr_left fun x hx => by rw [(h x hx).1, (h x hx).2]

theorem ents_eraseIdx (c : Cs) (L : List Nat) (k : Nat) : ents c (L.eraseIdx k) = (ents c L).eraseIdx k := by unfold ents; simp [List.eraseIdx_eq_take_drop_succ]

theorem drop_ents (h : Inv c L F) {k x : Nat} (hk : L[k]? = some x) : ents (c.drop x) (L.eraseIdx k) = (ents c L).eraseIdx k := by
  rw [← ents_eraseIdx]
  have hnm := eraseIdx_not_mem h.ch.nd hk
  exact ents_congr fun y hy => ⟨upd_other _ _ _ _ (fun e => hnm (e ▸ hy)), upd_other _ _ _ _ (fun e => hnm (e ▸ hy))⟩

/-- a new entry in the first free slot -/
theorem Inv.takeFill {i : Nat} {G : List Nat} (h : Inv c L (i :: G)) (hn : c.n ≤ 1000000) (k v : Int) (hk : ∀ x ∈ L, c.key x ≠ k) : Inv (c.take.fill i k v) (i :: L) G := by
  have hl := h.len_le
  have hi : i < c.n := h.flt i (by simp)
  have hiL : i ∉ L := fun hm => h.disj hm (by simp)
  have hfi : c.free = (i : Int) := by rw [h.free, nth_cons_zero]
  have hch : Ch c.take L := ⟨h.ch.nd, h.ch.lt, h.ch.head, h.ch.tail, h.ch.next, h.ch.prev, h.ch.size⟩
  have p := (hch.kv (upd c.take.key i k) (upd c.take.val i v)).pushFront (i := i) hi hiL (by omega)
  have a := List.nodup_append.1 h.nd
  have a2 := List.nodup_cons.1 a.2.1
  refine ⟨p, ?_, ?_, ?_, ?_, ?_, ?_, ?_⟩
  · rw [List.cons_append, List.nodup_cons, List.nodup_append]
    refine ⟨fun hm => ?_, a.1, a2.2, fun x hx y hy => a.2.2 x hx y (by simp [hy])⟩
    rcases List.mem_append.1 hm with h1 | h1
    · exact hiL h1
    · exact a2.1 h1
  · intro y hy; unfold Cs.fill; rw [pushFront_n]; exact h.flt y (by simp [hy])
  · unfold Cs.fill; rw [pushFront_free]
    show c.next c.free.toNat = _
    rw [hfi, Int.toNat_natCast, h.fnext 0 i rfl, nth_cons_succ]
  · intro j y hj
    have hy := mem_of_idx hj
    unfold Cs.fill
    rw [pushFront_next _ _ (ne_of_mem hy a2.1)]
    show c.next y = _
    rw [h.fnext (j + 1) y (by simpa using hj), nth_cons_succ]
  · unfold Cs.fill; rw [pushFront_n]; show c.n = _
    have := h.cnt; simp only [List.length_cons] at this ⊢; omega
  · unfold Cs.fill; rw [pushFront_key]
    show ((i :: L).map (upd c.key i k)).Nodup
    rw [List.map_cons, upd_same, List.map_congr_left (g := c.key) (fun y hy => upd_other _ _ _ _ (ne_of_mem hy hiL)), List.nodup_cons]
    exact ⟨fun hm => by obtain ⟨y, hy, e⟩ := List.mem_map.1 hm; exact hk y hy e, h.keys⟩
  · unfold Cs.fill; rw [pushFront_n, pushFront_cap]; exact h.ncap

theorem Ch.grow (h : Ch c L) : Ch c.grow L := by
  have ne : ∀ k x, L[k]? = some x → x ≠ c.n := fun k x hx => by have := h.lt x (mem_of_idx hx); omega
  exact ⟨h.nd, fun x hx => by have := h.lt x hx; show x < c.n + 1; omega, h.head, h.tail, fun k x hx => (upd_other _ _ _ _ (ne k x hx)).trans (h.next k x hx), fun k x hx => (upd_other _ _ _ _ (ne k x hx)).trans (h.prev k x hx), h.size⟩

/-- a new entry in a new slot -/
theorem Inv.growFill (h : Inv c L []) (hn : c.n ≤ 1000000) (hc : (c.n : Int) < c.cap) (k v : Int) (hk : ∀ x ∈ L, c.key x ≠ k) : Inv (c.grow.fill c.n k v) (c.n :: L) [] := by
  have hl := h.len_le
  have hiL : c.n ∉ L := fun hm => by have := h.ch.lt _ hm; omega
  have p := (h.ch.grow.kv (upd c.grow.key c.n k) (upd c.grow.val c.n v)).pushFront (i := c.n) (Nat.lt_succ_self _) hiL (by omega)
  refine ⟨p, ?_, by simp, ?_, by simp, ?_, ?_, ?_⟩
  · rw [List.append_nil]; exact p.nd
  · unfold Cs.fill; rw [pushFront_free]; exact h.free
  · unfold Cs.fill; rw [pushFront_n]; show c.n + 1 = _
    have := h.cnt; simp only [List.length_cons, List.length_nil] at this ⊢; omega
  · unfold Cs.fill; rw [pushFront_key]
    show ((c.n :: L).map (upd (upd c.key c.n 0) c.n k)).Nodup
    rw [List.map_cons, upd_same, List.map_congr_left (g := c.key) (fun y hy => by
      have : y ≠ c.n := fun e => hiL (e ▸ hy)
      rw [upd_other _ _ _ _ this, upd_other _ _ _ _ this]), List.nodup_cons]
    exact ⟨fun hm => by obtain ⟨y, hy, e⟩ := List.mem_map.1 hm; exact hk y hy e, h.keys⟩
  · unfold Cs.fill; rw [pushFront_n, pushFront_cap]; show ((c.n + 1 : Nat) : Int) ≤ c.cap; omega

theorem takeFill_ents {i : Nat} (hiL : i ∉ L) (k v : Int) : ents (c.take.fill i k v) (i :: L) = (k, v) :: ents c L := by
  unfold ents Cs.fill
  rw [pushFront_key, pushFront_val, List.map_cons]
  refine congr (congrArg List.cons ?_) (List.map_congr_left fun y hy => ?_)
  · show (upd _ i k i, upd _ i v i) = _; rw [upd_same, upd_same]
  · have : y ≠ i := fun e => hiL (e ▸ hy)
    show (upd _ i k y, upd _ i v y) = _
    rw [upd_other _ _ _ _ this, upd_other _ _ _ _ this]; rfl
theorem growFill_ents (hiL : c.n ∉ L) (k v : Int) : ents (c.grow.fill c.n k v) (c.n :: L) = (k, v) :: ents c L := by
  unfold ents Cs.fill
  rw [pushFront_key, pushFront_val, List.map_cons]
  refine congr (congrArg List.cons ?_) (List.map_congr_left fun y hy => ?_)
  · show (upd _ c.n k c.n, upd _ c.n v c.n) = _; rw [upd_same, upd_same]
  · have : y ≠ c.n := fun e => hiL (e ▸ hy)
    show (upd _ c.n k y, upd _ c.n v y) = _
    rw [upd_other _ _ _ _ this, upd_other _ _ _ _ this]
    show (upd c.key c.n 0 y, upd c.val c.n 0 y) = _
    rw [upd_other _ _ _ _ this, upd_other _ _ _ _ this]

/-! ### the plain list model -/

/-- where the key stands -/
def idx (key : Int) : List (Int × Int) → Option Nat
  | [] => none
  | e :: t => if e.1 = key then some 0 else (idx key t).map (· + 1)
def mget (M : List (Int × Int)) (key : Int) : List (Int × Int) := match idx key M with | some k => M.getD k (0, 0) :: M.eraseIdx k | none => M
def mpeek (M : List (Int × Int)) (key : Int) : Int := match idx key M with | some k => (M.getD k (0, 0)).2 | none => 0
def mremove (M : List (Int × Int)) (key : Int) : List (Int × Int) := match idx key M with | some k => M.eraseIdx k | none => M
def mput (cap : Int) (M : List (Int × Int)) (key val : Int) : List (Int × Int) :=
  if cap = 0 then M else match idx key M with
  | some k => (key, val) :: M.eraseIdx k
  | none => (key, val) :: (if (M.length : Int) = cap then M.dropLast else M)

theorem idx_ents (c : Cs) (key : Int) : ∀ L : List Nat, idx key (ents c L) = pos c key L
  | [] => rfl
  | x :: t => by
    show (if c.key x = key then some 0 else (idx key (ents c t)).map (· + 1)) = (if c.key x = key then some 0 else (pos c key t).map (· + 1))
    rw [idx_ents c key t]

theorem ents_getD {k x : Nat} (hk : L[k]? = some x) : (ents c L).getD k (0, 0) = (c.key x, c.val x) := by
  unfold ents; simp [List.getD, hk]

theorem get_cap (c : Cs) (key : Int) : (c.get key).cap = c.cap := by unfold Cs.get; split; rfl; rw [pushFront_cap]; rfl
theorem get_n (c : Cs) (key : Int) : (c.get key).n = c.n := by unfold Cs.get; split; rfl; rw [pushFront_n]; rfl
theorem get_free (c : Cs) (key : Int) : (c.get key).free = c.free := by unfold Cs.get; split; rfl; rw [pushFront_free]; rfl
theorem remove_cap (c : Cs) (key : Int) : (c.remove key).cap = c.cap := by unfold Cs.remove; split <;> rfl
theorem remove_n (c : Cs) (key : Int) : (c.remove key).n = c.n := by unfold Cs.remove; split <;> rfl
theorem evict_cap (c : Cs) : c.evict.cap = c.cap := by unfold Cs.evict; split <;> rfl
theorem evict_n (c : Cs) : c.evict.n = c.n := by unfold Cs.evict; split <;> rfl
theorem insert_cap (c : Cs) (k v : Int) : (c.insert k v).cap = c.cap := by unfold Cs.insert; split <;> (unfold Cs.fill; rw [pushFront_cap]; rfl)
theorem insert_n (c : Cs) (k v : Int) : (c.insert k v).n ≤ c.n + 1 := by
  unfold Cs.insert; split <;> (unfold Cs.fill; rw [pushFront_n])
  · exact Nat.le_refl _
  · exact Nat.le_succ _
theorem put_cap (c : Cs) (k v : Int) : (c.put k v).cap = c.cap := by
  unfold Cs.put
  split
  · rfl
  · split
    · rw [insert_cap]; split
      · exact evict_cap c
      · rfl
    · rw [pushFront_cap]; rfl
theorem put_n (c : Cs) (k v : Int) : (c.put k v).n ≤ c.n + 1 := by
  unfold Cs.put
  split
  · exact Nat.le_succ _
  · split
    · refine Nat.le_trans (insert_n _ k v) ?_
      split
      · rw [evict_n]; exact Nat.le_refl _
      · exact Nat.le_refl _
    · rw [pushFront_n]; exact Nat.le_succ _

/-- Get -/
theorem Inv.get (h : Inv c L F) (hn : c.n ≤ 1000000) (key : Int) : ∃ L', Inv (c.get key) L' F ∧ ents (c.get key) L' = mget (ents c L) key := by
  unfold mget
  rw [idx_ents]
  rcases h.ch.find_cases key with ⟨hp, hf⟩ | ⟨k, x, hp, hk, hf, _, _⟩
  · rw [hp]
    have e : c.get key = c := by unfold Cs.get; rw [if_pos hf]
    rw [e]; exact ⟨L, h, rfl⟩
  · rw [hp]
    have e : c.get key = (c.unlink x).pushFront x := by unfold Cs.get; rw [if_neg (by omega), hf]; rfl
    rw [e]
    refine ⟨x :: L.eraseIdx k, h.front hk hn, ?_⟩
    dsimp only
    rw [ents_getD hk, ← ents_eraseIdx]
    unfold ents
    rw [pushFront_key, pushFront_val]; rfl
theorem Inv.peek (h : Inv c L F) (key : Int) : c.peek key = mpeek (ents c L) key ∧ (!decide (c.find key = -1)) = (idx key (ents c L)).isSome := by
  unfold mpeek
  rw [idx_ents]
  rcases h.ch.find_cases key with ⟨hp, hf⟩ | ⟨k, x, hp, hk, hf, _, _⟩
  · rw [hp]; unfold Cs.peek; rw [if_pos hf]; simp [hf]
  · rw [hp]; unfold Cs.peek; rw [if_neg (by omega), hf]; dsimp only; rw [ents_getD hk]; simp
/-- Remove -/
theorem Inv.remove (h : Inv c L F) (hn : c.n ≤ 1000000) (key : Int) : ∃ L' F', Inv (c.remove key) L' F' ∧ ents (c.remove key) L' = mremove (ents c L) key := by
  unfold mremove
  rw [idx_ents]
  rcases h.ch.find_cases key with ⟨hp, hf⟩ | ⟨k, x, hp, hk, hf, _, _⟩
  · rw [hp]
    have e : c.remove key = c := by unfold Cs.remove; rw [if_pos hf]
    rw [e]; exact ⟨L, F, h, rfl⟩
  · rw [hp]
    have e : c.remove key = c.drop x := by unfold Cs.remove; rw [if_neg (by omega), hf]; rfl
    rw [e]
    exact ⟨_, _, h.drop hk hn, drop_ents h hk⟩
/-- Evict -/
theorem Inv.evict (h : Inv c L F) (hn : c.n ≤ 1000000) : ∃ L' F', Inv c.evict L' F' ∧ ents c.evict L' = (ents c L).dropLast ∧ (L ≠ [] → ∃ x, F' = x :: F) := by
  have hs := h.ch.size
  by_cases h0 : L = []
  · subst h0
    have e : c.evict = c := by unfold Cs.evict; rw [if_pos (by simpa using hs)]
    rw [e]; exact ⟨[], F, h, rfl, fun e => absurd rfl e⟩
  · obtain ⟨t, ht, hpl⟩ := prv_last h0
    have hl : 0 < L.length := List.length_pos_iff.2 h0
    have e : c.evict = c.drop t := by unfold Cs.evict; rw [if_neg (by omega), h.ch.tail, hpl]; rfl
    rw [e]
    refine ⟨_, _, h.drop ht hn, ?_, fun _ => ⟨t, rfl⟩⟩
    rw [drop_ents h ht, List.eraseIdx_eq_take_drop_succ, List.dropLast_eq_take]
    have hlen : (ents c L).length = L.length := by unfold ents; simp
    rw [List.drop_of_length_le (by rw [hlen]; omega), List.append_nil, hlen]
theorem evicted_ents (h : Ch c L) : c.evicted = (ents c L).getLastD (0, 0) := by
  have hs := h.size
  by_cases h0 : L = []
  · subst h0
    unfold Cs.evicted; rw [if_pos (by simpa using hs)]; rfl
  · obtain ⟨t, ht, hpl⟩ := prv_last h0
    have hl : 0 < L.length := List.length_pos_iff.2 h0
    unfold Cs.evicted
    rw [if_neg (by omega), h.tail, hpl, Int.toNat_natCast, List.getLastD_eq_getLast?, List.getLast?_eq_getElem?]
    have hlen : (ents c L).length = L.length := by unfold ents; simp
    rw [hlen]; unfold ents; rw [List.getElem?_map, ht]; rfl
theorem ents_length (c : Cs) (L : List Nat) : (ents c L).length = L.length := by unfold ents; simp
theorem insert_inv {c : Cs} {L F : List Nat} (h : Inv c L F) (hn : c.n ≤ 1000000) (hc : (L.length : Int) < c.cap) (k v : Int) (hk : ∀ x ∈ L, c.key x ≠ k) : ∃ L' F', Inv (c.insert k v) L' F' ∧ ents (c.insert k v) L' = (k, v) :: ents c L := by
  cases F with
  | nil =>
    have e : c.insert k v = c.grow.fill c.n k v := by unfold Cs.insert; rw [if_pos (by rw [h.free]; rfl)]
    rw [e]
    have hcn := h.cnt
    simp at hcn
    exact ⟨_, _, h.growFill hn (by omega) k v hk, growFill_ents (fun hm => by have := h.ch.lt _ hm; omega) k v⟩
  | cons i G =>
    have hfi : c.free = (i : Int) := by rw [h.free, nth_cons_zero]
    have e : c.insert k v = c.take.fill i k v := by unfold Cs.insert; rw [if_neg (by omega), hfi]; rfl
    rw [e]
    exact ⟨_, _, h.takeFill hn k v hk, takeFill_ents (fun hm => h.disj hm (by simp)) k v⟩
theorem mem_map_key {L : List Nat} {x : Nat} (c : Cs) (h : x ∈ L) : c.key x ∈ (ents c L).map Prod.fst := by
  unfold ents; rw [List.map_map]; exact List.mem_map.2 ⟨x, h, rfl⟩
/-- Put -/
theorem Inv.put (h : Inv c L F) (hn : c.n ≤ 1000000) (k v : Int) : ∃ L' F', Inv (c.put k v) L' F' ∧ ents (c.put k v) L' = mput c.cap (ents c L) k v := by
  have hs := h.ch.size
  unfold mput
  by_cases h0 : c.cap = 0
  · rw [if_pos h0]
    have e : c.put k v = c := by unfold Cs.put; rw [if_pos h0]
    rw [e]; exact ⟨L, F, h, rfl⟩
  · rw [if_neg h0, idx_ents, ents_length]
    rcases h.ch.find_cases k with ⟨hp, hf⟩ | ⟨p, x, hp, hk, hf, hkx, _⟩
    · rw [hp]
      have hkk := pos_none hp
      dsimp only
      by_cases hsz : c.size = c.cap
      · rw [if_pos (by omega)]
        have e : c.put k v = c.evict.insert k v := by unfold Cs.put; rw [if_neg h0, if_pos hf, if_pos hsz]
        rw [e]
        obtain ⟨L1, F1, h1, e1, _⟩ := h.evict hn
        have hne : L ≠ [] := fun e => by rw [e] at hs; simp at hs; omega
        have hl : 0 < L.length := List.length_pos_iff.2 hne
        have hl1 : L1.length + 1 = L.length := by
          have := congrArg List.length e1
          rw [ents_length, List.length_dropLast, ents_length] at this; omega
        obtain ⟨L2, F2, h2, e2⟩ := insert_inv h1 (by rw [evict_n]; exact hn) (by rw [evict_cap]; omega) k v (fun x hx e => by
          have : k ∈ (ents c.evict L1).map Prod.fst := e ▸ mem_map_key c.evict hx
          rw [e1] at this
          obtain ⟨y, hy, e'⟩ := List.mem_map.1 this
          have hy' := List.dropLast_subset _ hy
          unfold ents at hy'
          obtain ⟨z, hz, rfl⟩ := List.mem_map.1 hy'
          exact hkk z hz e')
        exact ⟨L2, F2, h2, by rw [e2, e1]⟩
      · rw [if_neg (by omega)]
        have e : c.put k v = c.insert k v := by unfold Cs.put; rw [if_neg h0, if_pos hf, if_neg hsz]
        rw [e]
        have := h.ncap
        have := h.len_le
        exact insert_inv h hn (by omega) k v hkk
    · rw [hp]
      have e : c.put k v = (({ c with val := upd c.val x v } : Cs).unlink x).pushFront x := by unfold Cs.put; rw [if_neg h0, if_neg (by omega), hf]; rfl
      rw [e]
      have hi : Inv ({ c with val := upd c.val x v } : Cs) L F := ⟨⟨h.ch.nd, h.ch.lt, h.ch.head, h.ch.tail, h.ch.next, h.ch.prev, h.ch.size⟩, h.nd, h.flt, h.free, h.fnext, h.cnt, h.keys, h.ncap⟩
      refine ⟨_, F, hi.front hk hn, ?_⟩
      have hnm := eraseIdx_not_mem h.ch.nd hk
      dsimp only
      rw [← ents_eraseIdx]
      unfold ents
      rw [pushFront_key, pushFront_val, List.map_cons]
      refine congr (congrArg List.cons ?_) (List.map_congr_left fun y hy => ?_)
      · show (c.key x, upd c.val x v x) = _; rw [upd_same, hkx]
      · show (c.key y, upd c.val x v y) = _; rw [upd_other _ _ _ _ (ne_of_mem hy hnm)]
/-- what Put answers -/
theorem Inv.putOut (h : Inv c L F) (k v : Int) : c.putOut k v = (if c.cap = 0 then (k, v) else if idx k (ents c L) = none ∧ ((ents c L).length : Int) = c.cap then (ents c L).getLastD (0, 0) else (0, 0)) ∧
    c.putOk k = (if c.cap = 0 then true else decide (idx k (ents c L) = none ∧ ((ents c L).length : Int) = c.cap)) := by
  have hs := h.ch.size
  unfold Cs.putOut Cs.putOk
  by_cases h0 : c.cap = 0
  · simp [h0]
  · have hsz : (c.size = c.cap) = (((ents c L).length : Int) = c.cap) := by rw [ents_length, hs]
    have hfi : (c.find k = -1) = (idx k (ents c L) = none) := by
      rw [idx_ents]
      rcases h.ch.find_cases k with ⟨hp, hf⟩ | ⟨p, x, hp, hk, hf, hkx, _⟩
      · rw [hp, hf]; simp
      · rw [hp, hf]; simp
    rw [if_neg h0, if_neg h0, if_neg h0, if_neg h0]
    constructor
    · rw [evicted_ents h.ch]
      simp only [hsz, hfi]
    · simp only [hsz, hfi]
end
end Go.Proofs.Ymbrdw
