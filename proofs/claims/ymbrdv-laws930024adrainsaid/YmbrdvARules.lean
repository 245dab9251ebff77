/- What unlink and pushFront do to the caches of alink. -/
import Derived.Test.YmbrdvALink
import Derived.Test.YmbrdvASame
namespace Go.Proofs.Ymbrdv
open Go.RowKit

theorem Ch.unlink_prev {c : Cs} {L : List Nat} (h : Ch c L) {k i y : Nat} (hk : L[k]? = some i) (hy : y ∉ L) : (c.unlink i).prev y = c.prev y := by
  show (if c.next i = -1 then c.prev else upd c.prev (c.next i).toNat (c.prev i)) y = _
  rw [h.next k i hk]
  rcases nth_cases L (k + 1) with ⟨_, e⟩ | ⟨_, x, hx, e⟩
  · rw [if_pos e]
  · rw [if_neg (by omega), e, Int.toNat_natCast, upd_other _ _ _ _ (fun e' => hy (by rw [e']; exact List.mem_of_getElem? hx))]
theorem mem_eraseIdx_of {L : List Nat} {k i x : Nat} (hk : L[k]? = some i) (hx : x ∈ L) (hne : x ≠ i) : x ∈ L.eraseIdx k := by
  obtain ⟨j, hj⟩ := List.getElem?_of_mem hx
  have hjk : j ≠ k := fun e => hne (by rw [e, hk] at hj; exact (Option.some.inj hj).symm)
  by_cases h : j < k
  · exact List.mem_of_getElem? (i := j) (by rw [List.getElem?_eraseIdx, if_pos h]; exact hj)
  · exact List.mem_of_getElem? (i := j - 1) (by rw [List.getElem?_eraseIdx, if_neg (by omega), show j - 1 + 1 = j by omega]; exact hj)
theorem rest_same {V : Nat → Int} {m : Nat} {L : List Nat} (hd : L.Nodup) (hL : ∀ x ∈ L, x < m ∧ kd (V x) ≠ 2) (hl : L.length ≤ 1000000) {k i : Nat} (hk : L[k]? = some i) : SameBut ((linkC V m L).unlink i) (linkC V m (L.eraseIdx k)) i := by
  have C0 := linkC_ch hd hL
  have C1 := C0.unlink hk hl
  have C2 : Ch (linkC V m (L.eraseIdx k)) (L.eraseIdx k) := linkC_ch C1.nd (fun x hx => hL x (List.mem_of_mem_eraseIdx hx))
  refine ⟨rfl, ?_, ?_, rfl, ?_, rfl, fun s _ => ⟨rfl, rfl⟩, fun s _ hs => ?_⟩
  · rw [C1.head]; exact C2.head
  · rw [C1.tail]; exact C2.tail
  · rw [C1.size]; exact C2.size
  · by_cases hm : s ∈ L.eraseIdx k
    · obtain ⟨j, hj⟩ := List.getElem?_of_mem hm
      rw [C1.prev j s hj, C1.next j s hj, C2.prev j s hj, C2.next j s hj]
      exact ⟨rfl, rfl⟩
    · have hsL : s ∉ L := fun h => hm (mem_eraseIdx_of hk h (fun e => hs (by rw [e])))
      rw [C0.unlink_prev hk hsL, C0.unlink_next hk hsL]
      show lkp _ _ s = lkp L L.length s ∧ lkx (fx V) _ _ s = lkx (fx V) L L.length s
      rw [lkp_out hm _ (Nat.le_refl _), lkx_out hm _ (Nat.le_refl _), lkp_out hsL _ (Nat.le_refl _), lkx_out hsL _ (Nat.le_refl _)]
      exact ⟨rfl, rfl⟩
theorem pushFront_prev (c : Cs) (i : Nat) {y : Nat} (h : y ≠ i) (h2 : (y : Int) ≠ c.head) (h3 : c.head = -1 ∨ ∃ x : Nat, c.head = x ∧ x < c.n) : (c.pushFront i).prev y = c.prev y := by
  unfold Cs.pushFront
  split
  · exact upd_other _ _ _ _ h
  · rename_i hh
    obtain ⟨x, hx, _⟩ := h3.resolve_left hh
    show upd (upd c.prev i (-1)) c.head.toNat i y = _
    rw [upd_other _ _ _ _ (by rw [hx, Int.toNat_natCast]; exact fun e => h2 (by rw [hx, e])), upd_other _ _ _ _ h]
theorem undo_same {V : Nat → Int} {m : Nat} {L : List Nat} (hd : L.Nodup) (hL : ∀ x ∈ L, x < m ∧ kd (V x) ≠ 2) (hl : L.length ≤ 100000) {s : Nat} (hs : s < m) (hn : s ∉ L) : SameBut (((linkC V m L).pushFront s).unlink s) (linkC V m L) s := by
  have C0 := linkC_ch hd hL
  have C1 := C0.pushFront (i := s) hs hn (by omega)
  have C2 : Ch (((linkC V m L).pushFront s).unlink s) L := C1.unlink (k := 0) (i := s) rfl (by simp; omega)
  refine ⟨?_, ?_, ?_, ?_, ?_, ?_, fun x _ => ⟨?_, ?_⟩, fun x _ hx => ?_⟩
  · show _ = ((linkC V m L).pushFront s).n; rw [pushFront_n]
  · rw [C2.head]; exact C0.head
  · rw [C2.tail]; exact C0.tail
  · show _ = ((linkC V m L).pushFront s).free; rw [pushFront_free]
  · rw [C2.size]; exact C0.size
  · show _ = ((linkC V m L).pushFront s).cap; rw [pushFront_cap]
  · show _ = ((linkC V m L).pushFront s).key x; rw [pushFront_key]
  · show _ = ((linkC V m L).pushFront s).val x; rw [pushFront_val]
  · have hxs : x ≠ s := fun e => hx (by rw [e])
    by_cases hm : x ∈ L
    · obtain ⟨j, hj⟩ := List.getElem?_of_mem hm
      rw [C0.prev j x hj, C0.next j x hj, C2.prev j x hj, C2.next j x hj]
      exact ⟨rfl, rfl⟩
    · have hms : x ∉ s :: L := fun h => by rcases List.mem_cons.1 h with h | h; exact hxs h; exact hm h
      rw [C1.unlink_prev (k := 0) (i := s) rfl hms, C1.unlink_next (k := 0) (i := s) rfl hms, pushFront_next _ _ hxs, pushFront_prev _ _ hxs ?_ C0.head_ok]
      · exact ⟨rfl, rfl⟩
      · rw [C0.head]
        rcases nth_cases L 0 with ⟨_, e⟩ | ⟨_, y, hy, e⟩
        · omega
        · rw [e]
          intro e'
          exact hm (by rw [show x = y by omega]; exact List.mem_of_getElem? hy)
theorem ord_plus (V : Nat → Int) (n : Nat) : ordL (part n V) (n + 1) = ordL (part n V) n ++ [n] := by
  show (if kd (part n V n) = 0 then _ else _) = _
  rw [if_pos (by show kd (if n < n then V n else 0) = 0; rw [if_neg (by omega)]; rfl)]
theorem ord_part (V : Nat → Int) (n : Nat) : ∀ s, s ≤ n → ordL (part n V) s = ordL V s
  | 0, _ => rfl
  | s + 1, h => by
    have e : part n V s = V s := if_pos (by omega)
    unfold ordL
    rw [ord_part V n s (by omega), e]
theorem ordL_le (V : Nat → Int) (s : Nat) : (ordL V s).length ≤ s := by
  induction s with
  | zero => exact Nat.le_refl _
  | succ s ih =>
    unfold ordL
    split
    · simp; omega
    · split
      · simp; omega
      · omega
theorem rem_nat (a : Int) (n : Nat) (hn : 0 < n) : ∃ i : Nat, a % (n : Int) = i ∧ i < n := ⟨(a % (n : Int)).toNat, by have := Int.emod_nonneg a (show (n : Int) ≠ 0 by omega); omega, by have := Int.emod_lt_of_pos a (show (0 : Int) < n by omega); have := Int.emod_nonneg a (show (n : Int) ≠ 0 by omega); omega⟩
end Go.Proofs.Ymbrdv
