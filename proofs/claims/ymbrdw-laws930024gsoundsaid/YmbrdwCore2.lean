import Derived.Test.YmbrdwPlain
import Derived.BigRegion
namespace Go.Proofs.Ymbrdw
open Go.RowKit

def Cs.drop (c : Cs) (i : Nat) : Cs :=
  { c.unlink i with key := upd c.key i 0, val := upd c.val i 0, prev := upd (c.unlink i).prev i (-1), next := upd (c.unlink i).next i c.free, free := i }

theorem two_new (w : World) (A B : Array Value) (t u : Nat) (o : Nat) : ((w.alloc (.cells A t)).alloc (.cells B u)).cell? ⟨w.heap.size, o, none⟩ = A[o]? ∧ ((w.alloc (.cells A t)).alloc (.cells B u)).cell? ⟨w.heap.size + 1, o, none⟩ = B[o]? ∧ ((w.alloc (.cells A t)).alloc (.cells B u)).frozen? ⟨w.heap.size, o, none⟩ = false ∧ ((w.alloc (.cells A t)).alloc (.cells B u)).frozen? ⟨w.heap.size + 1, o, none⟩ = false := by
  have h1 : ((w.alloc (.cells A t)).alloc (.cells B u)).heap[w.heap.size]? = some (.cells A t (0, 0)) := by
    rw [hold _ _ _ (by simp)]; exact heap_alloc_new _ _
  have h2 : ((w.alloc (.cells A t)).alloc (.cells B u)).heap[w.heap.size + 1]? = some (.cells B u (0, 0)) := by
    have := heap_alloc_new (w.alloc (.cells A t)) (.cells B u); simpa using this
  exact ⟨cell_of_row _ _ _ _ _ _ h1, cell_of_row _ _ _ _ _ _ h2, frozen_of_row _ _ _ _ _ h1, frozen_of_row _ _ _ _ _ h2⟩

set_option maxHeartbeats 1000000 in
theorem drop_at (cb nb i : Nat) (c : Cs) (w : World) (H : CacheAt w cb nb c) (hi : i < c.n) (hp : c.prev i = -1 ∨ ∃ p : Nat, c.prev i = p ∧ p < c.n) (hx : c.next i = -1 ∨ ∃ x : Nat, c.next i = x ∧ x < c.n) :
    Calls Ydwm.prog 33 #[.pointer (some ⟨cb, 0, none⟩), .int .i64 i] w fun e w' => e = .returned (.agg #[.int .i64 (c.key i), .int .i64 (c.val i)]) ∧ CacheAt w' cb nb (c.drop i) ∧ Keeps [cb, nb] w w' := by
  have hn : 0 < c.n := by omega
  obtain ⟨hne, ncap, c0, r⟩ := H.row hn
  obtain ⟨d0, d1, _, _, _⟩ := r.nodes
  have hi' : (i : Int) < (c.n : Int) := by omega
  have e0 := d0 i hi
  have e1 := d1 i hi
  have hlt := H.lt
  have hnlt := H.nlt
  have HH : Hid (CacheAt w cb nb c) := H
  clear H r d0 d1
  go_enter Ydwm.func33, Ydwm.ntmps33
  go_wp2_with fail
  refine (unlink_at cb nb i c _ ((HH.out.alloc _).alloc _) hi hp hx).mono ?_
  rintro e w1 ⟨rfl, H1, K1, S1⟩
  have T := two_new w #[.int .i64 0, .int .i64 0] #[.int .i64 (c.key i), .int .i64 (c.val i)] 28 28
  have q0 := (World.cell?_of_block (a := ⟨w.heap.size, 0, none⟩) (K1.block w.heap.size (by simp; omega) (by simp; omega))).trans (T 0).1
  have q1 := (World.cell?_of_block (a := ⟨w.heap.size, 1, none⟩) (K1.block w.heap.size (by simp; omega) (by simp; omega))).trans (T 1).1
  have q2 := (World.cell?_of_block (a := ⟨w.heap.size + 1, 0, none⟩) (K1.block (w.heap.size + 1) (by simp) (by simp; omega))).trans (T 0).2.1
  have q3 := (World.cell?_of_block (a := ⟨w.heap.size + 1, 1, none⟩) (K1.block (w.heap.size + 1) (by simp) (by simp; omega))).trans (T 1).2.1
  have q4 := fun o => (World.frozen?_of_block (a := ⟨w.heap.size, o, none⟩) (K1.block w.heap.size (by simp; omega) (by simp; omega))).trans (T o).2.2.1
  simp only [List.getElem?_toArray, List.getElem?_cons_zero, List.getElem?_cons_succ] at q0 q1 q2 q3
  obtain ⟨_, ncap1, a0, r1⟩ := H1.row hn
  obtain ⟨g0, g1, g2, g3, gz⟩ := r1.nodes
  have f0 := g0 i hi
  have f1 := g1 i hi
  have f2 := g2 i hi
  have f3 := g3 i hi
  have a3 := H1.c3
  have az := H1.fr
  have S2 : w1.heap.size = w.heap.size + 2 := by rw [S1]; simp
  have e3 : (c.unlink i).n = c.n := rfl
  have e4 : (c.unlink i).free = c.free := rfl
  rw [e3] at a0
  rw [e4] at a3
  have hne1 : cb ≠ w.heap.size := by omega
  have hne2 : nb ≠ w.heap.size := by omega
  have HF : Hid (CacheAt w1 cb nb (c.unlink i) ∧ Keeps [cb, nb] w w1) := ⟨H1, (((Keeps.refl _ w).alloc _).alloc _).trans K1 (by simp)⟩
  clear H1 K1 S1 r1 g0 g1 g2 g3 e3 e4 T hp hx
  go_wp2
  go_region
  go_wp2
  refine bodyPost_ret (v := .agg #[.int .i64 (c.key i), .int .i64 (c.val i)]) (by simp [results, Ydwm.results33, go_sem, q0, q1]) rfl ⟨rfl, ?_, ?_⟩
  · have := ((((((HF.out.1.setKey hn i 0).setVal hn i 0).setPrev hn i (-1)).setNext hn i c.free).setFree i).setOther ⟨w.heap.size, 0, none⟩ (.int .i64 (c.key i)) hne1 hne2).setOther ⟨w.heap.size, 1, none⟩ (.int .i64 (c.val i)) hne1 hne2
    exact this.drew
  · exact (((((((HF.out.2.setCell _ _ (by simp)).setCell _ _ (by simp)).setCell _ _ (by simp)).setCell _ _ (by simp)).setCell _ _ (by simp)).setCell _ _ (.inr (Nat.le_refl _))).setCell _ _ (.inr (Nat.le_refl _))).drew

theorem Ch.prev_ok {c : Cs} {L : List Nat} (h : Ch c L) {k i : Nat} (hk : L[k]? = some i) : c.prev i = -1 ∨ ∃ p : Nat, c.prev i = p ∧ p < c.n := by
  rw [h.prev k i hk]; exact h.prv_lt k
theorem Ch.next_ok {c : Cs} {L : List Nat} (h : Ch c L) {k i : Nat} (hk : L[k]? = some i) : c.next i = -1 ∨ ∃ p : Nat, c.next i = p ∧ p < c.n := by
  rw [h.next k i hk]; exact h.nth_lt _
theorem Ch.head_ok {c : Cs} {L : List Nat} (h : Ch c L) : c.head = -1 ∨ ∃ p : Nat, c.head = p ∧ p < c.n := by
  rw [h.head]; exact h.nth_lt _

set_option maxHeartbeats 400000 in
theorem Len_at (cb nb : Nat) (c : Cs) (w : World) (H : CacheAt w cb nb c) :
    Calls Ydwm.prog 26 #[.pointer (some ⟨cb, 0, none⟩)] w fun e w' => e = .returned (.int .i64 c.size) ∧ w' = w := by
  have c4 := H.c4
  clear H
  go_enter Ydwm.func26, Ydwm.ntmps26
  go_wp2
  go_ret
  exact ⟨rfl, rfl⟩

/-- the last slot of a list that has one -/
theorem prv_last {L : List Nat} (h : L ≠ []) : ∃ t, L[L.length - 1]? = some t ∧ prv L L.length = t := by
  have hl : 0 < L.length := List.length_pos_iff.2 h
  refine ⟨L[L.length - 1], List.getElem?_eq_getElem (by omega), ?_⟩
  unfold prv; rw [if_neg (by omega)]; exact Go.Proofs.Ymbrdw.nth_lt (by omega)

def Cs.evict (c : Cs) : Cs := if c.size = 0 then c else c.drop c.tail.toNat
def Cs.evicted (c : Cs) : Int × Int := if c.size = 0 then (0, 0) else (c.key c.tail.toNat, c.val c.tail.toNat)

set_option maxHeartbeats 1000000 in
theorem Evict_at (cb nb : Nat) (c : Cs) (L : List Nat) (w : World) (H : CacheAt w cb nb c) (hL : Ch c L) :
    Calls Ydwm.prog 23 #[.pointer (some ⟨cb, 0, none⟩)] w fun e w' => e = .returned (.tuple #[.agg #[.int .i64 c.evicted.1, .int .i64 c.evicted.2], .bool (!decide (c.size = 0))]) ∧ CacheAt w' cb nb c.evict ∧ Keeps [cb, nb] w w' := by
  have c4 := H.c4
  have c2 := H.c2
  have hlt := H.lt
  have hnlt := H.nlt
  have hne1 : cb ≠ w.heap.size := by omega
  have hne2 : nb ≠ w.heap.size := by omega
  have HH : Hid (CacheAt w cb nb c ∧ Ch c L) := ⟨H, hL⟩
  have hs := hL.size
  clear H
  by_cases h0 : L = []
  · subst h0
    have h00 : c.size = 0 := by simpa using hs
    have e1 : c.evict = c := by unfold Cs.evict; rw [if_pos h00]
    have e2 : c.evicted = (0, 0) := by unfold Cs.evicted; rw [if_pos h00]
    rw [e1, e2, h00]
    rw [h00] at c4
    clear hL hs h00 e1 e2
    go_enter Ydwm.func23, Ydwm.ntmps23
    go_wp2
    refine bodyPost_ret (v := .tuple #[.agg #[.int .i64 0, .int .i64 0], .bool false]) (by simp [results, Ydwm.results23, go_sem]) rfl ⟨by simp, HH.out.1.alloc _, (Keeps.refl _ _).alloc _⟩
  · obtain ⟨t, ht, hpl⟩ := prv_last h0
    have hlen : 0 < L.length := List.length_pos_iff.2 h0
    have hz : (c.size == 0) = false := beq_eq_false_iff_ne.2 (by omega)
    have htl : c.tail = (t : Int) := by rw [hL.tail, hpl]
    have e1 : c.evict = c.drop t := by unfold Cs.evict; rw [if_neg (by omega), htl]; rfl
    have e2 : c.evicted = (c.key t, c.val t) := by unfold Cs.evicted; rw [if_neg (by omega), htl]; rfl
    have e3 : (!decide (c.size = 0)) = true := by simp; omega
    rw [e1, e2, e3]
    rw [htl] at c2
    have hti := hL.lt t (List.mem_of_getElem? ht)
    clear hL htl e1 e2 e3 hpl
    go_enter Ydwm.func23, Ydwm.ntmps23
    go_wp2_with fail
    refine (drop_at cb nb t c _ (HH.out.1.alloc _) hti (HH.out.2.prev_ok ht) (HH.out.2.next_ok ht)).mono ?_
    rintro e w1 ⟨rfl, H1, K1⟩
    have q0 : w1.cell? ⟨w.heap.size, 0, none⟩ = some (.int .i64 0) := K1.cell (by simp) (by simp; omega)
    have q1 : w1.cell? ⟨w.heap.size, 1, none⟩ = some (.int .i64 0) := K1.cell (by simp) (by simp; omega)
    have q4 : ∀ o, w1.frozen? ⟨w.heap.size, o, none⟩ = false := fun o => (World.frozen?_of_block (K1.block w.heap.size (by simp) (by simp; omega))).trans (by simp)
    have HF : Hid (CacheAt w1 cb nb (c.drop t) ∧ Keeps [cb, nb] w w1) := ⟨H1, ((Keeps.refl _ w).alloc _).trans K1 (by simp)⟩
    clear H1 K1
    go_wp2
    refine bodyPost_ret (v := .tuple #[.agg #[.int .i64 (c.key t), .int .i64 (c.val t)], .bool true]) (by simp [results, Ydwm.results23, go_sem, q0, q1]) rfl ⟨rfl, ?_, ?_⟩
    · exact (HF.out.1.setOther _ _ hne1 hne2).setOther _ _ hne1 hne2
    · exact (HF.out.2.setCell _ _ (.inr (Nat.le_refl _))).setCell _ _ (.inr (Nat.le_refl _))

/-- find over a list: -1, or the slot of some place -/
theorem Ch.find_cases {c : Cs} {L : List Nat} (h : Ch c L) (key : Int) :
    (pos c key L = none ∧ c.find key = -1) ∨ ∃ k x, pos c key L = some k ∧ L[k]? = some x ∧ c.find key = (x : Int) ∧ c.key x = key ∧ x < c.n := by
  have hf := h.find key
  cases hp : pos c key L with
  | none => rw [hp] at hf; exact .inl ⟨rfl, hf⟩
  | some k =>
    rw [hp] at hf
    obtain ⟨x, h1, h2, _⟩ := pos_some hp
    exact .inr ⟨k, x, rfl, h1, by rw [hf]; exact nth_some h1, h2, h.lt x (List.mem_of_getElem? h1)⟩

def Cs.peek (c : Cs) (key : Int) : Int := if c.find key = -1 then 0 else c.val (c.find key).toNat
def Cs.get (c : Cs) (key : Int) : Cs := if c.find key = -1 then c else (c.unlink (c.find key).toNat).pushFront (c.find key).toNat
def Cs.remove (c : Cs) (key : Int) : Cs := if c.find key = -1 then c else c.drop (c.find key).toNat

set_option maxHeartbeats 1000000 in
theorem Peek_at (cb nb : Nat) (key : Int) (c : Cs) (L : List Nat) (w : World) (H : CacheAt w cb nb c) (hL : Ch c L) (hb : L.length ≤ 1000000) :
    Calls Ydwm.prog 29 #[.pointer (some ⟨cb, 0, none⟩), .int .i64 key] w fun e w' => e = .returned (.tuple #[.int .i64 (c.peek key), .bool (!decide (c.find key = -1))]) ∧ w' = w := by
  have hs := hL.size
  have FIND := find_at cb nb key c w H (by omega) (by omega) hL.slots
  rcases hL.find_cases key with ⟨_, hf⟩ | ⟨k, x, _, hk, hf, _, hx⟩
  · have e1 : c.peek key = 0 := by unfold Cs.peek; rw [if_pos hf]
    rw [hf] at FIND
    rw [e1, hf]
    clear hL hs H e1 hf
    go_enter Ydwm.func29, Ydwm.ntmps29
    go_wp2_with fail
    refine FIND.mono ?_
    rintro e w' ⟨rfl, rfl⟩
    go_wp2
    go_ret2
    exact ⟨rfl, rfl⟩
  · obtain ⟨hne, ncap, c0, r⟩ := H.row (by omega)
    obtain ⟨_, d1, _, _, _⟩ := r.nodes
    have e1' := d1 x hx
    have hx' : (x : Int) < (c.n : Int) := by omega
    have e1 : c.peek key = c.val x := by unfold Cs.peek; rw [if_neg (by omega), hf]; rfl
    have e2 : (!decide (c.find key = -1)) = true := by simp; omega
    rw [hf] at FIND
    rw [e1, e2]
    have hm : ((x : Int) == -1) = false := beq_eq_false_iff_ne.2 (by omega)
    clear hL hs H e1 e2 hf r d1
    go_enter Ydwm.func29, Ydwm.ntmps29
    go_wp2_with fail
    refine FIND.mono ?_
    rintro e w' ⟨rfl, rfl⟩
    go_wp2
    go_ret2
    exact ⟨rfl, rfl⟩

set_option maxHeartbeats 1000000 in
theorem Get_at (cb nb : Nat) (key : Int) (c : Cs) (L : List Nat) (w : World) (H : CacheAt w cb nb c) (hL : Ch c L) (hb : L.length ≤ 1000000) :
    Calls Ydwm.prog 34 #[.pointer (some ⟨cb, 0, none⟩), .int .i64 key] w fun e w' => e = .returned (.tuple #[.int .i64 (c.peek key), .bool (!decide (c.find key = -1))]) ∧ CacheAt w' cb nb (c.get key) ∧ Keeps [cb, nb] w w' := by
  have hs := hL.size
  have FIND := find_at cb nb key c w H (by omega) (by omega) hL.slots
  rcases hL.find_cases key with ⟨_, hf⟩ | ⟨k, x, _, hk, hf, _, hx⟩
  · have e1 : c.peek key = 0 := by unfold Cs.peek; rw [if_pos hf]
    have e2 : c.get key = c := by unfold Cs.get; rw [if_pos hf]
    rw [hf] at FIND
    rw [e1, e2, hf]
    clear hL hs e1 e2 hf
    go_enter Ydwm.func34, Ydwm.ntmps34
    go_wp2_with fail
    refine FIND.mono ?_
    rintro e w' ⟨rfl, rfl⟩
    go_wp2
    go_ret2
    exact ⟨rfl, H, Keeps.refl _ _⟩
  · have e1 : c.peek key = c.val x := by unfold Cs.peek; rw [if_neg (by omega), hf]; rfl
    have e2 : (!decide (c.find key = -1)) = true := by simp; omega
    have e3 : c.get key = (c.unlink x).pushFront x := by unfold Cs.get; rw [if_neg (by omega), hf]; rfl
    rw [hf] at FIND
    rw [e1, e2, e3]
    have hm : ((x : Int) == -1) = false := beq_eq_false_iff_ne.2 (by omega)
    have hx' : (x : Int) < (c.n : Int) := by omega
    have HH : Hid (CacheAt w cb nb c ∧ Ch c L) := ⟨H, hL⟩
    clear hL hs H e1 e2 hf e3
    go_enter Ydwm.func34, Ydwm.ntmps34
    go_wp2_with fail
    refine FIND.mono ?_
    rintro e w' ⟨rfl, rfl⟩
    go_wp2_with fail
    refine (unlink_at cb nb x c _ HH.out.1 hx (HH.out.2.prev_ok hk) (HH.out.2.next_ok hk)).mono ?_
    rintro e w1 ⟨rfl, H1, K1, S1⟩
    go_wp2_with fail
    refine (pushFront_at cb nb x _ _ H1 hx (HH.out.2.unlink hk hb).head_ok).mono ?_
    rintro e w2 ⟨rfl, H2, K2, S2⟩
    obtain ⟨_, ncap, c0, r⟩ := H2.row (show 0 < ((c.unlink x).pushFront x).n by unfold Cs.pushFront; split <;> (show 0 < c.n; omega))
    obtain ⟨_, d1, _, _, _⟩ := r.nodes
    have en : ((c.unlink x).pushFront x).n = c.n := by unfold Cs.pushFront; split <;> rfl
    have ev : ((c.unlink x).pushFront x).val x = c.val x := by unfold Cs.pushFront; split <;> rfl
    have e4 := d1 x (by omega)
    rw [ev] at e4
    rw [en] at c0
    have HF : Hid (CacheAt w2 cb nb ((c.unlink x).pushFront x) ∧ Keeps [cb, nb] w' w2) := ⟨H2, K1.trans K2 (by simp)⟩
    clear H1 K1 S1 H2 K2 S2 r d1 en ev
    go_wp2
    go_ret2
    exact ⟨rfl, HF.out⟩

/-- the second field of an entry that is a value -/
theorem field_val (a b : Int) (w : World) : (Instr.field 28 (.agg #[.int .i64 a, .int .i64 b]) 1).run Ydwm.prog w = .ok (.int .i64 b) w := by kernel_rfl

set_option maxHeartbeats 1000000 in
theorem Remove_at (cb nb : Nat) (key : Int) (c : Cs) (L : List Nat) (w : World) (H : CacheAt w cb nb c) (hL : Ch c L) (hb : L.length ≤ 1000000) :
    Calls Ydwm.prog 35 #[.pointer (some ⟨cb, 0, none⟩), .int .i64 key] w fun e w' => e = .returned (.tuple #[.int .i64 (c.peek key), .bool (!decide (c.find key = -1))]) ∧ CacheAt w' cb nb (c.remove key) ∧ Keeps [cb, nb] w w' := by
  have hs := hL.size
  have FIND := find_at cb nb key c w H (by omega) (by omega) hL.slots
  rcases hL.find_cases key with ⟨_, hf⟩ | ⟨k, x, _, hk, hf, _, hx⟩
  · have e1 : c.peek key = 0 := by unfold Cs.peek; rw [if_pos hf]
    have e2 : c.remove key = c := by unfold Cs.remove; rw [if_pos hf]
    rw [hf] at FIND
    rw [e1, e2, hf]
    clear hL hs e1 e2 hf
    go_enter Ydwm.func35, Ydwm.ntmps35
    go_wp2_with fail
    refine FIND.mono ?_
    rintro e w' ⟨rfl, rfl⟩
    go_wp2
    go_ret2
    exact ⟨rfl, H, Keeps.refl _ _⟩
  · have e1 : c.peek key = c.val x := by unfold Cs.peek; rw [if_neg (by omega), hf]; rfl
    have e2 : (!decide (c.find key = -1)) = true := by simp; omega
    have e3 : c.remove key = c.drop x := by unfold Cs.remove; rw [if_neg (by omega), hf]; rfl
    rw [hf] at FIND
    rw [e1, e2, e3]
    have hm : ((x : Int) == -1) = false := beq_eq_false_iff_ne.2 (by omega)
    have hx' : (x : Int) < (c.n : Int) := by omega
    have HH : Hid (CacheAt w cb nb c ∧ Ch c L) := ⟨H, hL⟩
    clear hL hs H e1 e2 hf e3
    go_enter Ydwm.func35, Ydwm.ntmps35
    go_wp2_with fail
    refine FIND.mono ?_
    rintro e w' ⟨rfl, rfl⟩
    go_wp2_with fail
    refine (drop_at cb nb x c _ HH.out.1 hx (HH.out.2.prev_ok hk) (HH.out.2.next_ok hk)).mono ?_
    rintro e w1 ⟨rfl, H1, K1⟩
    have hfd := field_val
    go_wp2
    go_ret2
    exact ⟨rfl, H1, K1⟩
end Go.Proofs.Ymbrdw
