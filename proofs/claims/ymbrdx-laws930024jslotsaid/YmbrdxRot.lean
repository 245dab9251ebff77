/- Rotations and layouts by places. -/
import Derived.Test.YmbrdxLists
namespace Go.Proofs.Ymbrdx
open Go.RowKit

theorem mod_two (a n : Nat) (h : a < 2 * n) : a % n = if a < n then a else a - n := by
  by_cases h1 : a < n
  · rw [if_pos h1, Nat.mod_eq_of_lt h1]
  · rw [if_neg h1, Nat.mod_eq_sub_mod (by omega), Nat.mod_eq_of_lt (by omega)]
/-- the slot of place j, the place of slot x -/
def rs (f n j : Nat) : Nat := (f + j) % n
def rp (f n x : Nat) : Nat := (x + n - f) % n
theorem rs_lt (f n j : Nat) (h : 0 < n) : rs f n j < n := Nat.mod_lt _ h
theorem rp_rs (f n j : Nat) (hf : f < n) (hj : j < n) : rp f n (rs f n j) = j := by
  unfold rp rs
  rw [mod_two (f + j) n (by omega)]
  split <;> rw [mod_two _ n (by omega)] <;> split <;> omega
theorem rs_rp (f n x : Nat) (hf : f < n) (hx : x < n) : rs f n (rp f n x) = x := by
  unfold rp rs
  rw [mod_two (x + n - f) n (by omega)]
  split <;> rw [mod_two _ n (by omega)] <;> split <;> omega
/-- Go's own sum and remainder -/
theorem rs_int (s n j : Nat) : ((s : Int) + (j : Int)) % (n : Int) = (rs (s % n) n j : Nat) := by
  unfold rs
  rw [Nat.mod_add_mod]
  simp

/-- a layout by places: the first k places are filled -/
def lay (at_ : Nat → Nat) (n : Nat) (g d : Nat → Int) (k x : Nat) : Int := if x < n ∧ at_ x < k then g (at_ x) else d x
theorem lay_zero (at_ : Nat → Nat) (n : Nat) (g d : Nat → Int) : lay at_ n g d 0 = d := funext fun x => by unfold lay; simp
theorem lay_step {at_ : Nat → Nat} {n : Nat} (g d : Nat → Int) {k s : Nat} (hs : s < n) (ha : at_ s = k) (hinj : ∀ x, x < n → at_ x = k → x = s) : upd (lay at_ n g d k) s (g k) = lay at_ n g d (k + 1) := funext fun x => by
  unfold upd lay
  by_cases e : x = s
  · rw [if_pos e, e, if_pos ⟨hs, by omega⟩, ha]
  · rw [if_neg e]
    by_cases hx : x < n ∧ at_ x < k
    · rw [if_pos hx, if_pos ⟨hx.1, by omega⟩]
    · rw [if_neg hx, if_neg (fun h => hx ⟨h.1, by
        have : at_ x ≠ k := fun h2 => e (hinj x h.1 h2)
        omega⟩)]
theorem lay_full {at_ : Nat → Nat} {n : Nat} (g d : Nat → Int) {k x : Nat} (hx : x < n) (ha : at_ x < k) : lay at_ n g d k x = g (at_ x) := by unfold lay; rw [if_pos ⟨hx, ha⟩]

/-- the slots of the places in order are a list of the cache -/
theorem lay_ch (c : Cs) (n : Nat) (sl at_ : Nat → Nat) (hsl : ∀ j, j < n → sl j < c.n) (hat : ∀ j, j < n → at_ (sl j) = j) (hh : c.head = nth ((List.range n).map sl) 0) (ht : c.tail = prv ((List.range n).map sl) n)
    (hx : ∀ j, j < n → c.next (sl j) = nth ((List.range n).map sl) (j + 1)) (hp : ∀ j, j < n → c.prev (sl j) = prv ((List.range n).map sl) j) (hs : c.size = n) : Ch c ((List.range n).map sl) := by
  have hg : ∀ k x, ((List.range n).map sl)[k]? = some x → k < n ∧ x = sl k := fun k x h => by
    obtain ⟨h1, h2⟩ := List.getElem?_eq_some_iff.1 h
    simp at h1 h2
    exact ⟨h1, h2.symm⟩
  refine ⟨?_, ?_, hh, by simpa using ht, ?_, ?_, by simpa using hs⟩
  · refine List.pairwise_iff_getElem.2 fun i j hi hj hij e => ?_
    simp at hi hj e
    have := hat i hi
    rw [e, hat j hj] at this
    omega
  · intro x hx'
    obtain ⟨j, hj, rfl⟩ := List.mem_map.1 hx'
    exact hsl j (List.mem_range.1 hj)
  · intro k x h
    obtain ⟨h1, rfl⟩ := hg k x h
    exact hx k h1
  · intro k x h
    obtain ⟨h1, rfl⟩ := hg k x h
    exact hp k h1
/-- the slots from s on, round and round -/
def ring (s n : Nat) : List Nat := (List.range n).map (rs (s % n) n)
theorem ring_get (s n j : Nat) (h : j < n) : (ring s n)[j]? = some (rs (s % n) n j) := by simp [ring, h]
theorem ring_nth (s n j : Nat) (h : j < n) : nth (ring s n) j = ((s : Int) + (j : Int)) % (n : Int) := by
  rw [nth_some (ring_get s n j h), rs_int]
theorem ring_len (s n : Nat) : (ring s n).length = n := by simp [ring]
theorem ring_nth' (s n j : Nat) (h : n ≤ j) : nth (ring s n) j = -1 := nth_ge (by rw [ring_len]; exact h)
theorem ring_prv (s n j : Nat) (h : j < n) (h0 : 0 < j) : prv (ring s n) j = ((s : Int) + (j : Int) - 1) % (n : Int) := by
  unfold prv
  rw [if_neg (by omega), ring_nth s n _ (by omega), show ((s : Int) + ((j - 1 : Nat) : Int)) = (s : Int) + (j : Int) - 1 by omega]
theorem ring_last (s n : Nat) (h : 0 < n) : prv (ring s n) n = ((s : Int) + (n : Int) - 1) % (n : Int) := by
  unfold prv
  rw [if_neg (by omega), ring_nth s n _ (by omega), show ((s : Int) + ((n - 1 : Nat) : Int)) = (s : Int) + (n : Int) - 1 by omega]
theorem ring_head (s n : Nat) (h : 0 < n) : nth (ring s n) 0 = (s : Int) % (n : Int) := by
  rw [ring_nth s n 0 h]; simp
end Go.Proofs.Ymbrdx
