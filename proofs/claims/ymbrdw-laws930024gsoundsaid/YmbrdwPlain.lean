/- The plain laws on a cache's two chains: no Go in sight. -/
import Derived.Test.YmbrdwCore1
namespace Go.Proofs.Ymbrdw
open Go.RowKit

/-- the k-th slot of a list of slots, or -1 -/
def nth (L : List Nat) (k : Nat) : Int := match L[k]? with | some x => (x : Int) | none => -1
/-- the slot ahead of place k, or -1 -/
def prv (L : List Nat) (k : Nat) : Int := if k = 0 then -1 else nth L (k - 1)

theorem nth_some {L : List Nat} {k x : Nat} (h : L[k]? = some x) : nth L k = x := by simp [nth, h]
theorem nth_ge {L : List Nat} {k : Nat} (h : L.length ≤ k) : nth L k = -1 := by simp [nth, h]
theorem nth_lt {L : List Nat} {k : Nat} (h : k < L.length) : nth L k = (L[k] : Int) := by simp [nth, h]
theorem nth_cons_succ (x : Nat) (L : List Nat) (k : Nat) : nth (x :: L) (k + 1) = nth L k := by simp [nth]
theorem nth_cons_zero (x : Nat) (L : List Nat) : nth (x :: L) 0 = x := by simp [nth]
theorem nth_eraseIdx_lt {L : List Nat} {i k : Nat} (h : k < i) : nth (L.eraseIdx i) k = nth L k := by simp [nth, List.getElem?_eraseIdx, h]
theorem nth_eraseIdx_ge {L : List Nat} {i k : Nat} (h : i ≤ k) : nth (L.eraseIdx i) k = nth L (k + 1) := by simp [nth, List.getElem?_eraseIdx, show ¬ k < i by omega]
theorem nth_cases (L : List Nat) (k : Nat) : (L.length ≤ k ∧ nth L k = -1) ∨ (k < L.length ∧ ∃ x, L[k]? = some x ∧ nth L k = x) := by
  by_cases h : k < L.length
  · exact .inr ⟨h, L[k], by simp [h], nth_lt h⟩
  · exact .inl ⟨by omega, nth_ge (by omega)⟩
theorem nth_ge_neg (L : List Nat) (k : Nat) : -1 ≤ nth L k := by
  rcases nth_cases L k with ⟨_, h⟩ | ⟨_, x, _, h⟩ <;> omega
theorem nth_eq_neg {L : List Nat} {k : Nat} : nth L k = -1 ↔ L.length ≤ k := by
  rcases nth_cases L k with ⟨h1, h⟩ | ⟨h1, x, _, h⟩ <;> omega

theorem nodup_idx {L : List Nat} (h : L.Nodup) {i j x : Nat} (hi : L[i]? = some x) (hj : L[j]? = some x) : i = j := by
  obtain ⟨h1, e1⟩ := List.getElem?_eq_some_iff.1 hi
  obtain ⟨h2, e2⟩ := List.getElem?_eq_some_iff.1 hj
  have hpw := List.pairwise_iff_getElem.1 h
  rcases Nat.lt_trichotomy i j with hl | hl | hl
  · exact absurd (e1.trans e2.symm) (hpw i j h1 h2 hl)
  · exact hl
  · exact absurd (e2.trans e1.symm) (hpw j i h2 h1 hl)

/-! ### the list of slots -/

/-- The slots L are the cache's list. -/
structure Ch (c : Cs) (L : List Nat) : Prop where
  nd : L.Nodup
  lt : ∀ x ∈ L, x < c.n
  head : c.head = nth L 0
  tail : c.tail = prv L L.length
  next : ∀ k x, L[k]? = some x → c.next x = nth L (k + 1)
  prev : ∀ k x, L[k]? = some x → c.prev x = prv L k
  size : c.size = L.length

section
variable {c : Cs} {L : List Nat}

theorem Ch.nth_lt (h : Ch c L) (k : Nat) : nth L k = -1 ∨ ∃ x : Nat, nth L k = x ∧ x < c.n := by
  rcases nth_cases L k with ⟨_, e⟩ | ⟨_, x, hx, e⟩
  · exact .inl e
  · exact .inr ⟨x, e, h.lt x (List.mem_of_getElem? hx)⟩
theorem Ch.prv_lt (h : Ch c L) (k : Nat) : prv L k = -1 ∨ ∃ x : Nat, prv L k = x ∧ x < c.n := by
  unfold prv; split
  · exact .inl rfl
  · exact h.nth_lt _
theorem Ch.slot (h : Ch c L) (k : Nat) (hk : k ≤ L.length) : c.slot k = nth L k := by
  induction k with
  | zero => exact h.head
  | succ k ih =>
    show c.next (c.slot k).toNat = _
    rw [ih (by omega)]
    have hx : L[k]? = some L[k] := List.getElem?_eq_getElem (by omega)
    rw [nth_some hx]
    exact h.next k _ hx
theorem Ch.slots (h : Ch c L) (k : Nat) (hk : (k : Int) < c.size) : ∃ s : Nat, c.slot k = s ∧ s < c.n := by
  have hk' : k < L.length := by have := h.size; omega
  rw [h.slot k (by omega), Go.Proofs.Ymbrdw.nth_lt hk']
  exact ⟨_, rfl, h.lt _ (List.getElem_mem _)⟩

/-- where the key stands in the list -/
def pos (c : Cs) (key : Int) : List Nat → Option Nat
  | [] => none
  | x :: t => if c.key x = key then some 0 else (pos c key t).map (· + 1)

theorem pos_none {key : Int} : ∀ {L : List Nat}, pos c key L = none → ∀ x ∈ L, c.key x ≠ key
  | [], _, x, hx => by simp at hx
  | y :: t, h, x, hx => by
    unfold pos at h
    split at h
    · simp at h
    · rename_i hy
      rcases List.mem_cons.1 hx with rfl | hx
      · exact hy
      · exact pos_none (by simpa using h) x hx
theorem pos_some {key : Int} : ∀ {L : List Nat} {k : Nat}, pos c key L = some k → ∃ x, L[k]? = some x ∧ c.key x = key ∧ ∀ j y, j < k → L[j]? = some y → c.key y ≠ key
  | [], k, h => by simp [pos] at h
  | y :: t, k, h => by
    unfold pos at h
    split at h
    · rename_i hy
      simp at h; subst h
      exact ⟨y, rfl, hy, fun j _ hj => absurd hj (by omega)⟩
    · rename_i hy
      obtain ⟨k', hk', rfl⟩ := Option.map_eq_some_iff.1 h
      obtain ⟨x, h1, h2, h3⟩ := pos_some hk'
      refine ⟨x, by simpa using h1, h2, fun j z hj hz => ?_⟩
      cases j with
      | zero => simp at hz; subst hz; exact hy
      | succ j => exact h3 j z (by omega) (by simpa using hz)

/-- what find finds -/
theorem Ch.find (h : Ch c L) (key : Int) : c.find key = match pos c key L with | some k => nth L k | none => -1 := by
  have hs := h.size
  unfold Cs.find
  rw [show c.size.toNat = L.length by omega]
  cases hp : pos c key L with
  | some k =>
    obtain ⟨x, h1, h2, h3⟩ := pos_some hp
    have hk : k < L.length := (List.getElem?_eq_some_iff.1 h1).1
    rw [c.find_slot key L.length k (fun j hj => by
      have hx : L[j]? = some L[j] := List.getElem?_eq_getElem (by omega)
      rw [h.slot j (by omega), nth_some hx]
      exact h3 j _ hj hx) (by omega)]
    obtain ⟨m, hm⟩ : ∃ m, L.length - k = m + 1 := ⟨L.length - k - 1, by omega⟩
    rw [hm, h.slot k (by omega)]
    show (if c.key (nth L k).toNat = key then nth L k else _) = nth L k
    rw [if_pos (by rw [nth_some h1]; exact h2)]
  | none =>
    rw [c.find_slot key L.length L.length (fun j hj => by
      have hx : L[j]? = some L[j] := List.getElem?_eq_getElem hj
      rw [h.slot j (by omega), nth_some hx]
      exact pos_none hp _ (List.mem_of_getElem? hx)) (by omega)]
    rw [Nat.sub_self]; rfl

theorem wrap64_id (x : Int) (h0 : -1000000000 ≤ x) (h1 : x ≤ 1000000000) : wrap64 x = x := by unfold wrap64; omega

/-- a slot is put at the head of the list -/
theorem Ch.pushFront (h : Ch c L) {i : Nat} (hi : i < c.n) (hn : i ∉ L) (hl : L.length ≤ 1000000) : Ch (c.pushFront i) (i :: L) := by
  have hs := h.size
  have hwr : wrap64 (c.size + 1) = c.size + 1 := wrap64_id _ (by omega) (by omega)
  have hne : ∀ k x, L[k]? = some x → x ≠ i := fun k x hx e => hn (e ▸ List.mem_of_getElem? hx)
  cases L with
  | nil =>
    have hh : c.head = -1 := h.head
    unfold Cs.pushFront; rw [if_pos hh, hwr]
    refine ⟨by simp, by simpa using hi, by simp [nth], by simp [prv, nth], ?_, ?_, by simp at hs; simp [hs]⟩
    · intro k x hx
      cases k with
      | zero => simp at hx; subst hx; simp [upd, nth, hh]
      | succ k => simp at hx
    · intro k x hx
      cases k with
      | zero => simp at hx; subst hx; simp [upd, prv]
      | succ k => simp at hx
  | cons y t =>
    have hh : c.head = (y : Int) := by rw [h.head]; simp [nth]
    have hyi : y ≠ i := hne 0 y rfl
    unfold Cs.pushFront; rw [if_neg (by omega), hwr]
    refine ⟨List.nodup_cons.2 ⟨hn, h.nd⟩, fun x hx => by rcases List.mem_cons.1 hx with rfl | hx; exact hi; exact h.lt x hx, by simp [nth], ?_, ?_, ?_, by simp at hs; simp [hs]⟩
    · show c.tail = _
      rw [h.tail]; simp only [prv, List.length_cons]
      rw [if_neg (by omega), if_neg (by omega)]
      rw [show t.length + 1 + 1 - 1 = t.length + 1 by omega, show t.length + 1 - 1 = t.length by omega, nth_cons_succ]
    · intro k x hx
      show upd c.next i c.head x = _
      cases k with
      | zero => simp at hx; subst hx; rw [upd_same, nth_cons_succ]; exact h.head
      | succ k =>
        have hx' : (y :: t)[k]? = some x := by simpa using hx
        rw [upd_other _ _ _ _ (hne k x hx'), nth_cons_succ]; exact h.next k x hx'
    · intro k x hx
      show upd (upd c.prev i (-1)) c.head.toNat i x = _
      rw [hh, Int.toNat_natCast]
      cases k with
      | zero => simp at hx; subst hx; rw [upd_other _ _ _ _ (Ne.symm hyi), upd_same]; simp [prv]
      | succ k =>
        have hx' : (y :: t)[k]? = some x := by simpa using hx
        cases k with
        | zero => simp at hx'; subst hx'; rw [upd_same]; simp [prv, nth]
        | succ k =>
          have hxy : x ≠ y := fun e => by
            subst e
            have := nodup_idx h.nd hx' (show (x :: t)[0]? = some x from rfl)
            omega
          rw [upd_other _ _ _ _ hxy, upd_other _ _ _ _ (hne _ x hx'), h.prev _ x hx']
          simp only [prv]
          rw [if_neg (by omega), if_neg (by omega), show k + 1 + 1 - 1 = k + 1 by omega, show k + 1 - 1 = k by omega, nth_cons_succ]

/-- the slot at place k is taken out of the list -/
theorem Ch.unlink (h : Ch c L) {k i : Nat} (hk : L[k]? = some i) (hl : L.length ≤ 1000000) : Ch (c.unlink i) (L.eraseIdx k) := by
  have hs := h.size
  have hkl : k < L.length := (List.getElem?_eq_some_iff.1 hk).1
  have hwr : wrap64 (c.size - 1) = c.size - 1 := wrap64_id _ (by omega) (by omega)
  have hp := h.prev k i hk
  have hx := h.next k i hk
  have hel : (L.eraseIdx k).length = L.length - 1 := List.length_eraseIdx_of_lt hkl
  unfold Cs.unlink
  rw [hp, hx, hwr]
  -- what stands at place j of the rest
  have hget : ∀ j, (L.eraseIdx k)[j]? = if j < k then L[j]? else L[j + 1]? := fun j => List.getElem?_eraseIdx
  have hprev0 : (prv L k = -1 ↔ k = 0) := by
    unfold prv
    by_cases h0 : k = 0
    · simp [h0]
    · rw [if_neg h0, nth_eq_neg]; omega
  have hnext0 : (nth L (k + 1) = -1 ↔ L.length ≤ k + 1) := nth_eq_neg
  refine ⟨h.nd.sublist (List.eraseIdx_sublist L k), fun x hx => h.lt x (List.mem_of_mem_eraseIdx hx), ?_, ?_, ?_, ?_, ?_⟩
  · dsimp only
    by_cases h0 : k = 0
    · rw [if_pos (hprev0.2 h0), h0, nth_eraseIdx_ge (Nat.le_refl _)]
    · rw [if_neg (fun e => h0 (hprev0.1 e)), nth_eraseIdx_lt (by omega)]; exact h.head
  · dsimp only
    rw [hel]
    by_cases h1 : L.length ≤ k + 1
    · rw [if_pos (hnext0.2 h1)]
      unfold prv
      by_cases h0 : k = 0
      · rw [if_pos h0, if_pos (by omega)]
      · rw [if_neg h0, if_neg (by omega), nth_eraseIdx_lt (by omega), show L.length - 1 - 1 = k - 1 by omega]
    · rw [if_neg (fun e => h1 (hnext0.1 e)), h.tail]
      unfold prv
      rw [if_neg (by omega), if_neg (by omega), nth_eraseIdx_ge (by omega), show L.length - 1 - 1 + 1 = L.length - 1 by omega]
  · intro j x hj
    rw [hget] at hj
    dsimp only
    by_cases h0 : k = 0
    · rw [if_pos (hprev0.2 h0)]
      subst h0
      rw [if_neg (by omega)] at hj
      rw [nth_eraseIdx_ge (by omega)]; exact h.next _ x hj
    · rw [if_neg (fun e => h0 (hprev0.1 e))]
      have hpk : prv L k = nth L (k - 1) := by unfold prv; rw [if_neg h0]
      obtain ⟨q, hL1⟩ : ∃ q, L[k - 1]? = some q := ⟨_, List.getElem?_eq_getElem (by omega)⟩
      rw [hpk, nth_some hL1, Int.toNat_natCast]
      by_cases hjk : j < k
      · rw [if_pos hjk] at hj
        by_cases e : j + 1 = k
        · have : x = q := by
            rw [show j = k - 1 by omega, hL1] at hj; exact (Option.some.inj hj).symm
          rw [this, upd_same, nth_eraseIdx_ge (by omega), e]
        · have : x ≠ q := fun e' => by
            rw [e'] at hj
            have := nodup_idx h.nd hj hL1; omega
          rw [upd_other _ _ _ _ this, nth_eraseIdx_lt (by omega)]; exact h.next j x hj
      · rw [if_neg hjk] at hj
        have : x ≠ q := fun e' => by
          rw [e'] at hj
          have := nodup_idx h.nd hj hL1; omega
        rw [upd_other _ _ _ _ this, nth_eraseIdx_ge (by omega)]; exact h.next _ x hj
  · intro j x hj
    rw [hget] at hj
    dsimp only
    by_cases h1 : L.length ≤ k + 1
    · rw [if_pos (hnext0.2 h1)]
      have hjk : j < k := by
        by_cases hjk : j < k
        · exact hjk
        · rw [if_neg hjk, List.getElem?_eq_none (by omega)] at hj; simp at hj
      rw [if_pos hjk] at hj
      rw [h.prev j x hj]
      unfold prv
      by_cases h0 : j = 0
      · rw [if_pos h0, if_pos h0]
      · rw [if_neg h0, if_neg h0, nth_eraseIdx_lt (by omega)]
    · rw [if_neg (fun e => h1 (hnext0.1 e))]
      obtain ⟨q, hL1⟩ : ∃ q, L[k + 1]? = some q := ⟨_, List.getElem?_eq_getElem (by omega)⟩
      rw [nth_some hL1, Int.toNat_natCast]
      by_cases hjk : j < k
      · rw [if_pos hjk] at hj
        have : x ≠ q := fun e' => by
          rw [e'] at hj
          have := nodup_idx h.nd hj hL1; omega
        rw [upd_other _ _ _ _ this, h.prev j x hj]
        unfold prv
        by_cases h0 : j = 0
        · rw [if_pos h0, if_pos h0]
        · rw [if_neg h0, if_neg h0, nth_eraseIdx_lt (by omega)]
      · rw [if_neg hjk] at hj
        by_cases e : j = k
        · subst e
          have : x = q := by rw [hL1] at hj; exact (Option.some.inj hj).symm
          rw [this, upd_same]
          unfold prv
          by_cases h0 : j = 0
          · rw [if_pos h0, if_pos h0]
          · rw [if_neg h0, if_neg h0, nth_eraseIdx_lt (by omega)]
        · have : x ≠ q := fun e' => by
            rw [e'] at hj
            have := nodup_idx h.nd hj hL1; omega
          rw [upd_other _ _ _ _ this, h.prev _ x hj]
          unfold prv
          rw [if_neg (by omega), if_neg (by omega), nth_eraseIdx_ge (by omega), show j - 1 + 1 = j + 1 - 1 by omega]
  · dsimp only; rw [hel]; omega
end
end Go.Proofs.Ymbrdw
