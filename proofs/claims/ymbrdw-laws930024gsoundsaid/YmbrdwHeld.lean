/- The contracts of the cache's methods, told by the list of entries that a whole cache holds. -/
import Derived.Test.YmbrdwCore5
namespace Go.Proofs.Ymbrdw
open Go.RowKit

/-- In w a whole cache c lies at block cb, its slots at nb: at most N slots, capacity cap, entries M. -/
structure Held (w : World) (cb nb : Nat) (c : Cs) (N : Nat) (cap : Int) (M : List (Int × Int)) : Prop where
  at_ : CacheAt w cb nb c
  inv : ∃ L F, Inv c L F ∧ ents c L = M
  cap : c.cap = cap
  n : c.n ≤ N

/-- the j-th key and value of a list of entries -/
def eK (M : List (Int × Int)) (j : Nat) : Int := (M.getD j (0, 0)).1
def eV (M : List (Int × Int)) (j : Nat) : Int := (M.getD j (0, 0)).2

section
variable {w w' : World} {cb nb N : Nat} {c : Cs} {cap : Int} {M : List (Int × Int)}

theorem Held.lt (h : Held w cb nb c N cap M) : cb < w.heap.size := h.at_.lt
theorem Held.nlt (h : Held w cb nb c N cap M) : nb < w.heap.size := h.at_.nlt
theorem Held.keeps {bs : List Nat} (h : Held w cb nb c N cap M) (k : Keeps bs w w') (h1 : cb ∉ bs) (h2 : nb ∉ bs) : Held w' cb nb c N cap M := ⟨h.at_.keeps k h1 h2, h.inv, h.cap, h.n⟩
theorem Held.drew (h : Held w cb nb c N cap M) : Held w.drew cb nb c N cap M := ⟨h.at_.drew, h.inv, h.cap, h.n⟩
theorem Held.drewN (h : Held w cb nb c N cap M) (q : Nat) : Held (w.drewN q) cb nb c N cap M := ⟨h.at_.drewN q, h.inv, h.cap, h.n⟩
theorem Held.alloc (h : Held w cb nb c N cap M) (o : Obj) : Held (w.alloc o) cb nb c N cap M := ⟨h.at_.alloc o, h.inv, h.cap, h.n⟩
theorem Held.mono {N' : Nat} (h : Held w cb nb c N cap M) (hn : N ≤ N') : Held w cb nb c N' cap M := ⟨h.at_, h.inv, h.cap, Nat.le_trans h.n hn⟩
theorem Held.size (h : Held w cb nb c N cap M) : c.size = M.length := by
  obtain ⟨L, F, I, rfl⟩ := h.inv
  rw [ents_length]; exact I.ch.size
theorem Held.len_le (h : Held w cb nb c N cap M) : M.length ≤ N := by
  obtain ⟨L, F, I, rfl⟩ := h.inv
  rw [ents_length]; exact Nat.le_trans I.len_le h.n
theorem Held.len_cap (h : Held w cb nb c N cap M) : (M.length : Int) ≤ cap := by
  obtain ⟨L, F, I, rfl⟩ := h.inv
  rw [ents_length]
  have := I.len_le
  have := I.ncap
  have := h.cap
  omega
/-- the keys are all different -/
theorem Held.nodup (h : Held w cb nb c N cap M) : (M.map Prod.fst).Nodup := by
  obtain ⟨L, F, I, rfl⟩ := h.inv
  have := I.keys
  unfold ents
  rw [List.map_map]; exact this
theorem Held.slots (h : Held w cb nb c N cap M) : ∀ k : Nat, (k : Int) < c.size → ∃ s : Nat, c.slot k = s ∧ s < c.n := by
  obtain ⟨L, F, I, _⟩ := h.inv
  exact I.ch.slots

theorem ch_ek {L : List Nat} (h : Ch c L) (j : Nat) (hj : j < L.length) : c.ek j = eK (ents c L) j ∧ c.ev j = eV (ents c L) j := by
  have hx : L[j]? = some L[j] := List.getElem?_eq_getElem hj
  unfold Cs.ek Cs.ev eK eV
  rw [h.slot j (by omega), nth_some hx, Int.toNat_natCast, ents_getD hx]
  exact ⟨rfl, rfl⟩
theorem Held.ek (h : Held w cb nb c N cap M) (j : Nat) (hj : j < M.length) : c.ek j = eK M j ∧ c.ev j = eV M j := by
  obtain ⟨L, F, I, rfl⟩ := h.inv
  exact ch_ek I.ch j (by rwa [ents_length] at hj)

theorem New_held (n : Int) (w : World) :
    Calls Ydwm.prog 16 #[.int .i64 n] w fun e w' => e = .returned (.pointer (some ⟨w.heap.size, 0, none⟩)) ∧ Held w' w.heap.size w.heap.size (Cs.new n) 0 (max n 0) [] ∧ Keeps [] w w' ∧ w'.heap.size = w.heap.size + 1 :=
  (New_at n w).mono fun _ _ ⟨he, H, K, S⟩ => ⟨he, ⟨H, ⟨[], [], Inv.new n, rfl⟩, rfl, Nat.le_refl _⟩, K, S⟩

/-- what Put answers, of a list -/
def mout (cap : Int) (M : List (Int × Int)) (k v : Int) : Int × Int := if cap = 0 then (k, v) else if idx k M = none ∧ (M.length : Int) = cap then M.getLastD (0, 0) else (0, 0)
def mok (cap : Int) (M : List (Int × Int)) (k : Int) : Bool := if cap = 0 then true else decide (idx k M = none ∧ (M.length : Int) = cap)

theorem Put_held (k v : Int) (h : Held w cb nb c N cap M) (hN : N ≤ 1000000) :
    Calls Ydwm.prog 25 #[.pointer (some ⟨cb, 0, none⟩), .int .i64 k, .int .i64 v] w fun e w' => e = .returned (.tuple #[.agg #[.int .i64 (mout cap M k v).1, .int .i64 (mout cap M k v).2], .bool (mok cap M k)]) ∧
      ∃ nb', Held w' cb nb' (c.put k v) (N + 1) cap (mput cap M k v) ∧ (nb' = nb ∨ w.heap.size ≤ nb') ∧ Keeps [cb, nb] w w' := by
  obtain ⟨H, ⟨L, F, I, rfl⟩, rfl, hn⟩ := h
  refine (Put_at cb nb k v c L w H I.ch (by have := I.len_le; omega) (by omega) I.free_ok).mono fun e w' ⟨he, nb', H', hb, K⟩ => ?_
  have o := I.putOut k v
  obtain ⟨L', F', I', e'⟩ := I.put (by omega) k v
  refine ⟨?_, nb', ⟨H', ⟨L', F', I', e'⟩, put_cap c k v, Nat.le_trans (put_n c k v) (by omega)⟩, hb, K⟩
  rw [he, o.1, o.2]; rfl

theorem Get_held (key : Int) (h : Held w cb nb c N cap M) (hN : N ≤ 1000000) :
    Calls Ydwm.prog 34 #[.pointer (some ⟨cb, 0, none⟩), .int .i64 key] w fun e w' => e = .returned (.tuple #[.int .i64 (mpeek M key), .bool (idx key M).isSome]) ∧
      Held w' cb nb (c.get key) N cap (mget M key) ∧ Keeps [cb, nb] w w' := by
  obtain ⟨H, ⟨L, F, I, rfl⟩, rfl, hn⟩ := h
  refine (Get_at cb nb key c L w H I.ch (by have := I.len_le; omega)).mono fun e w' ⟨he, H', K⟩ => ?_
  have o := I.peek key
  obtain ⟨L', I', e'⟩ := I.get (by omega) key
  refine ⟨?_, ⟨H', ⟨L', F, I', e'⟩, get_cap c key, by rw [get_n]; exact hn⟩, K⟩
  rw [he, o.1, o.2]

theorem Peek_held (key : Int) (h : Held w cb nb c N cap M) (hN : N ≤ 1000000) :
    Calls Ydwm.prog 29 #[.pointer (some ⟨cb, 0, none⟩), .int .i64 key] w fun e w' => e = .returned (.tuple #[.int .i64 (mpeek M key), .bool (idx key M).isSome]) ∧ w' = w := by
  obtain ⟨H, ⟨L, F, I, rfl⟩, rfl, hn⟩ := h
  refine (Peek_at cb nb key c L w H I.ch (by have := I.len_le; omega)).mono fun e w' ⟨he, hw⟩ => ?_
  have o := I.peek key
  exact ⟨by rw [he, o.1, o.2], hw⟩

theorem Remove_held (key : Int) (h : Held w cb nb c N cap M) (hN : N ≤ 1000000) :
    Calls Ydwm.prog 35 #[.pointer (some ⟨cb, 0, none⟩), .int .i64 key] w fun e w' => e = .returned (.tuple #[.int .i64 (mpeek M key), .bool (idx key M).isSome]) ∧
      Held w' cb nb (c.remove key) N cap (mremove M key) ∧ Keeps [cb, nb] w w' := by
  obtain ⟨H, ⟨L, F, I, rfl⟩, rfl, hn⟩ := h
  refine (Remove_at cb nb key c L w H I.ch (by have := I.len_le; omega)).mono fun e w' ⟨he, H', K⟩ => ?_
  have o := I.peek key
  obtain ⟨L', F', I', e'⟩ := I.remove (by omega) key
  refine ⟨?_, ⟨H', ⟨L', F', I', e'⟩, remove_cap c key, by rw [remove_n]; exact hn⟩, K⟩
  rw [he, o.1, o.2]

theorem Evict_held (h : Held w cb nb c N cap M) (hN : N ≤ 1000000) :
    Calls Ydwm.prog 23 #[.pointer (some ⟨cb, 0, none⟩)] w fun e w' => e = .returned (.tuple #[.agg #[.int .i64 (M.getLastD (0, 0)).1, .int .i64 (M.getLastD (0, 0)).2], .bool (!M.isEmpty)]) ∧
      Held w' cb nb c.evict N cap M.dropLast ∧ Keeps [cb, nb] w w' := by
  obtain ⟨H, ⟨L, F, I, rfl⟩, rfl, hn⟩ := h
  refine (Evict_at cb nb c L w H I.ch).mono fun e w' ⟨he, H', K⟩ => ?_
  obtain ⟨L', F', I', e', _⟩ := I.evict (by omega)
  refine ⟨?_, ⟨H', ⟨L', F', I', e'⟩, evict_cap c, by rw [evict_n]; exact hn⟩, K⟩
  rw [he, evicted_ents I.ch]
  have hs := I.ch.size
  have : decide (c.size = 0) = (ents c L).isEmpty := by
    rw [hs]; cases L <;> simp [ents]; omega
  rw [this]

theorem Order_held (h : Held w cb nb c N cap M) (hN : N ≤ 1000000) :
    Calls Ydwm.prog 22 #[.pointer (some ⟨cb, 0, none⟩)] w fun e w' => ∃ b ecap, e = .returned (.slice (some ⟨b, 0, none⟩) M.length ecap) ∧ RowAt w' b 28 2 M.length ecap (ecell (eK M) (eV M)) ∧ w.heap.size ≤ b ∧ Keeps [] w w' := by
  have hs := h.size
  have hl := h.len_le
  refine (Order_at cb nb c w h.at_ (by omega) (by omega) h.slots).mono fun e w' ⟨b, ecap, he, r, hb, K⟩ => ?_
  rw [show c.size.toNat = M.length by omega] at he r
  exact ⟨b, ecap, he, r.congr fun j hj => by unfold ecell; rw [(h.ek (j / 2) (by omega)).1, (h.ek (j / 2) (by omega)).2], hb, K⟩

theorem Len_held (h : Held w cb nb c N cap M) :
    Calls Ydwm.prog 26 #[.pointer (some ⟨cb, 0, none⟩)] w fun e w' => e = .returned (.int .i64 (M.length : Int)) ∧ w' = w :=
  (Len_at cb nb c w h.at_).mono fun _ _ ⟨he, hw⟩ => ⟨by rw [he, h.size], hw⟩

theorem list_ext_kv {M M' : List (Int × Int)} (hl : M.length = M'.length) (h : ∀ j, j < M.length → eK M j = eK M' j ∧ eV M j = eV M' j) : M = M' := by
  apply List.ext_getElem hl
  intro j h1 h2
  have := h j h1
  unfold eK eV at this
  rw [List.getD_eq_getElem?_getD, List.getD_eq_getElem?_getD, List.getElem?_eq_getElem h1, List.getElem?_eq_getElem h2] at this
  exact Prod.ext this.1 this.2

end

/-! ### Restore -/

/-- the entries of a row, as a list -/
def elist (len : Nat) (K V : Nat → Int) : List (Int × Int) := (List.range len).map fun j => (K j, V j)
theorem elist_length (len : Nat) (K V : Nat → Int) : (elist len K V).length = len := by simp [elist]
theorem elist_kv (len : Nat) (K V : Nat → Int) (j : Nat) (hj : j < len) : eK (elist len K V) j = K j ∧ eV (elist len K V) j = V j := by
  unfold eK eV elist; simp [List.getD, hj]

theorem RInv.held {w : World} {cb nb : Nat} {c : Cs} {cap : Int} {len : Nat} {K V : Nat → Int} (h : RInv c cap len len K V) (H : CacheAt w cb nb c) : Held w cb nb c len (max cap 0) (elist len K V) := by
  refine ⟨H, ⟨_, [], h.inv, ?_⟩, h.cap, by rw [h.n]; exact Nat.le_refl _⟩
  apply List.ext_getElem
  · simp [ents, elist]
  · intro j h1 h2
    have hj : j < len := by simpa [elist] using h2
    simp only [ents, elist, List.getElem_map, List.getElem_reverse, List.getElem_range, List.length_range]
    rw [h.key _ (by omega), h.val _ (by omega), show len - 1 - (len - 1 - j) = j by omega]

/-- what Restore answers -/
def RestoreHeld (cap : Int) (len : Nat) (K V : Nat → Int) (w : World) (e : Ending) (w' : World) : Prop :=
  Keeps [] w w' ∧ ∃ cb nb, w.heap.size ≤ cb ∧ w.heap.size ≤ nb ∧
    ((e = .returned (.tuple #[.pointer (some ⟨cb, 0, none⟩), .bool true]) ∧ (len : Int) ≤ max cap 0 ∧ Distinct len K ∧ ∃ c, Held w' cb nb c len (max cap 0) (elist len K V) ∧ RInv c cap len len K V) ∨
     (e = .returned (.tuple #[.pointer (some ⟨cb, 0, none⟩), .bool false]) ∧ ¬ ((len : Int) ≤ max cap 0 ∧ Distinct len K) ∧ nb = cb ∧ CacheAt w' cb cb (Cs.new cap)))

theorem Restore_held (cap : Int) (b off : Nat) (a : Option Addr) (len ecap : Nat) (K V : Nat → Int) (w : World) (hE : InRow w b off a len 2 (ecell K V)) (hb : len ≤ 100000) :
    Calls Ydwm.prog 18 #[.int .i64 cap, .slice a len ecap] w (RestoreHeld cap len K V w) :=
  (Restore_at cap b off a len ecap K V w hE hb).mono fun _ _ ⟨hK, cb, nb, h1, h2, h⟩ => ⟨hK, cb, nb, h1, h2, by
    rcases h with ⟨he, hl, hd, c, H, R⟩ | h
    · exact .inl ⟨he, hl, hd, c, R.held H, R⟩
    · exact .inr h⟩
end Go.Proofs.Ymbrdw
