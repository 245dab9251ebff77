import Derived.Test.YmbrdwCore2
import Derived.Test.YmbrdwSlice
import Derived.Deep.QuietTactic
import Derived.BigQuiet
namespace Go.Proofs.Ymbrdw
open Go.RowKit

theorem Below.drewN' {B : Nat} {a w : World} (h : Below B a w) (n : Nat) : Below B a (w.drewN n) := h.trans ⟨rfl, rfl, rfl, Nat.le_refl _, fun _ _ => rfl⟩
theorem Keeps.drewN {bs : List Nat} {a w : World} (h : Keeps bs a w) (n : Nat) : Keeps bs a (w.drewN n) := ⟨h.os, h.tape, h.output, h.size, h.block⟩
theorem CacheAt.drewN {w : World} {cb nb : Nat} {c : Cs} (h : CacheAt w cb nb c) (n : Nat) : CacheAt (w.drewN n) cb nb c := h.same rfl rfl

def Cs.fill (c : Cs) (i : Nat) (k v : Int) : Cs := ({ c with key := upd c.key i k, val := upd c.val i v } : Cs).pushFront i
def Cs.take (c : Cs) : Cs := { c with free := c.next c.free.toNat }
def Cs.grow (c : Cs) : Cs := { c with n := c.n + 1, key := upd c.key c.n 0, val := upd c.val c.n 0, prev := upd c.prev c.n (-1), next := upd c.next c.n (-1) }
/-- a new entry at the head, in a slot that is free or new -/
def Cs.insert (c : Cs) (k v : Int) : Cs := if c.free = -1 then c.grow.fill c.n k v else c.take.fill c.free.toNat k v
def Cs.put (c : Cs) (k v : Int) : Cs :=
  if c.cap = 0 then c else if c.find k = -1 then (if c.size = c.cap then c.evict else c).insert k v
  else (({ c with val := upd c.val (c.find k).toNat v } : Cs).unlink (c.find k).toNat).pushFront (c.find k).toNat
/-- what Put answers -/
def Cs.putOut (c : Cs) (k v : Int) : Int × Int := if c.cap = 0 then (k, v) else if c.find k = -1 ∧ c.size = c.cap then c.evicted else (0, 0)
def Cs.putOk (c : Cs) (k : Int) : Bool := if c.cap = 0 then true else decide (c.find k = -1 ∧ c.size = c.cap)

/-- what Put leaves -/
def PutPost (cb nb : Nat) (c : Cs) (k v : Int) (w : World) (e : Ending) (w' : World) : Prop :=
  e = .returned (.tuple #[.agg #[.int .i64 (c.putOut k v).1, .int .i64 (c.putOut k v).2], .bool (c.putOk k)]) ∧
    ∃ nb', CacheAt w' cb nb' (c.put k v) ∧ (nb' = nb ∨ w.heap.size ≤ nb') ∧ Keeps [cb, nb] w w'

set_option maxHeartbeats 1000000 in
theorem put_zero (cb nb : Nat) (k v : Int) (c : Cs) (w : World) (H : CacheAt w cb nb c) (h0 : c.cap = 0) :
    Calls Ydwm.prog 25 #[.pointer (some ⟨cb, 0, none⟩), .int .i64 k, .int .i64 v] w (PutPost cb nb c k v w) := by
  have e1 : c.put k v = c := by unfold Cs.put; rw [if_pos h0]
  have e2 : c.putOut k v = (k, v) := by unfold Cs.putOut; rw [if_pos h0]
  have e3 : c.putOk k = true := by unfold Cs.putOk; rw [if_pos h0]
  unfold PutPost
  rw [e1, e2, e3]
  have c5 := H.c5
  rw [h0] at c5
  have hlt := H.lt
  have HH : Hid (CacheAt w cb nb c) := H
  clear H e1 e2 e3 h0
  go_enter Ydwm.func25, Ydwm.ntmps25
  go_wp2
  exact bodyPost_ret (v := .tuple #[.agg #[.int .i64 k, .int .i64 v], .bool true]) (by simp [results, Ydwm.results25, go_sem]) rfl ⟨rfl, nb, HH.out.alloc _, .inl rfl, (Keeps.refl _ _).alloc _⟩

theorem CacheAt.other_new {w : World} {cb nb : Nat} {c : Cs} (H : CacheAt w cb nb c) : cb ≠ w.heap.size ∧ nb ≠ w.heap.size ∧ cb ≠ w.heap.size + 1 ∧ nb ≠ w.heap.size + 1 := by
  have := H.lt; have := H.nlt; omega

set_option maxHeartbeats 1000000 in
theorem put_hit (cb nb : Nat) (k v : Int) (c : Cs) (L : List Nat) (w : World) (H : CacheAt w cb nb c) (hL : Ch c L) (hb : L.length ≤ 1000000) (h0 : c.cap ≠ 0) (p x : Nat) (hp : L[p]? = some x) (hf : c.find k = (x : Int)) :
    Calls Ydwm.prog 25 #[.pointer (some ⟨cb, 0, none⟩), .int .i64 k, .int .i64 v] w (PutPost cb nb c k v w) := by
  have hxn := hL.lt x (List.mem_of_getElem? hp)
  have hfne : c.find k ≠ -1 := by omega
  have e1 : c.put k v = (({ c with val := upd c.val x v } : Cs).unlink x).pushFront x := by unfold Cs.put; rw [if_neg h0, if_neg hfne, hf]; rfl
  have e2 : c.putOut k v = (0, 0) := by unfold Cs.putOut; rw [if_neg h0, if_neg (fun e => hfne e.1)]
  have e3 : c.putOk k = false := by unfold Cs.putOk; rw [if_neg h0]; simp [hfne]
  unfold PutPost
  rw [e1, e2, e3]
  have hs := hL.size
  have FIND := fun W (h : CacheAt W cb nb c) => find_at cb nb k c W h (by omega) (by omega) hL.slots
  rw [hf] at FIND
  obtain ⟨hne, ncap, c0, r⟩ := H.row (by omega)
  obtain ⟨_, d1, _, _, dz⟩ := r.nodes
  have g1 := d1 x hxn
  have c5 := H.c5
  obtain ⟨hn1, hn2, _, _⟩ := H.other_new
  have hcz : (c.cap == 0) = false := beq_eq_false_iff_ne.2 h0
  have hxz : ((x : Int) != -1) = true := by rw [bne_iff_ne]; omega
  have hx' : (x : Int) < (c.n : Int) := by omega
  have hlt := H.lt
  have hnlt := H.nlt
  have HH : Hid (CacheAt w cb nb c ∧ Ch c L) := ⟨H, hL⟩
  clear H hL e1 e2 e3 h0 hf hfne d1 r hs
  go_enter Ydwm.func25, Ydwm.ntmps25
  go_wp2_with fail
  refine (FIND _ (HH.out.1.alloc _)).mono ?_
  rintro e w1 ⟨rfl, rfl⟩
  clear FIND
  go_wp2_with fail
  have hL2 : Ch ({ c with val := upd c.val x v } : Cs) L := ⟨HH.out.2.nd, HH.out.2.lt, HH.out.2.head, HH.out.2.tail, HH.out.2.next, HH.out.2.prev, HH.out.2.size⟩
  refine (unlink_at cb nb x { c with val := upd c.val x v } _ ?_ hxn (hL2.prev_ok hp) (hL2.next_ok hp)).mono ?_
  · first
    | exact (HH.out.1.alloc _).setVal (show 0 < c.n by omega) x v
    | exact (HH.out.1.setVal (show 0 < c.n by omega) x v).alloc _
  rintro e w2 ⟨rfl, H2, K2, S2⟩
  go_wp2_with fail
  refine (pushFront_at cb nb x _ _ H2 hxn (hL2.unlink hp hb).head_ok).mono ?_
  rintro e w3 ⟨rfl, H3, K3, S3⟩
  have K4 := K2.trans K3 (by simp)
  have KT : Keeps [cb, nb] w w3 := (((Keeps.refl [cb, nb] w).setCell ⟨nb, x * 4 + 1, none⟩ (.int .i64 v) (by simp)).alloc _).trans K4 (by simp)
  have n0 := heap_alloc_new (w.setCell ⟨nb, x * 4 + 1, none⟩ (.int .i64 v)) (.cells #[.int .i64 0, .int .i64 0] 28)
  rw [World.size_setCell] at n0
  have n1 := (K4.block w.heap.size (by simp) (by simp; omega)).trans n0
  have q0 : w3.cell? ⟨w.heap.size, 0, none⟩ = some (.int .i64 0) := cell_of_row _ _ _ _ _ _ n1
  have q1 : w3.cell? ⟨w.heap.size, 1, none⟩ = some (.int .i64 0) := cell_of_row _ _ _ _ _ _ n1
  have q4 : ∀ o, w3.frozen? ⟨w.heap.size, o, none⟩ = false := fun o => frozen_of_row _ _ _ _ _ n1
  clear n0 n1
  have HF : Hid (CacheAt w3 cb nb ((({ c with val := upd c.val x v } : Cs).unlink x).pushFront x) ∧ Keeps [cb, nb] w w3) := ⟨H3, KT⟩
  clear H2 K2 S2 H3 K3 S3 K4 KT hL2
  go_wp2
  exact bodyPost_ret (v := .tuple #[.agg #[.int .i64 0, .int .i64 0], .bool false]) (by simp [results, Ydwm.results25, go_sem, q0, q1]) rfl
    ⟨rfl, nb, (HF.out.1.setOther _ _ hn1 hn2).setOther _ _ hn1 hn2, .inl rfl, (HF.out.2.setCell _ _ (.inr (Nat.le_refl _))).setCell _ _ (.inr (Nat.le_refl _))⟩

/-- the list is not touched by what is stored into a slot's key and value -/
theorem Ch.kv {c : Cs} {L : List Nat} (h : Ch c L) (k v : Nat → Int) : Ch { c with key := k, val := v } L := ⟨h.nd, h.lt, h.head, h.tail, h.next, h.prev, h.size⟩

theorem eraseIdx_not_mem {L : List Nat} (h : L.Nodup) {k i : Nat} (hk : L[k]? = some i) : i ∉ L.eraseIdx k := by
  intro hm
  obtain ⟨j, hj⟩ := List.getElem?_of_mem hm
  rw [List.getElem?_eraseIdx] at hj
  split at hj
  · have := nodup_idx h hj hk; omega
  · have := nodup_idx h hj hk; omega

/-- a slot is moved to the free list -/
theorem Ch.drop {c : Cs} {L : List Nat} (h : Ch c L) {k i : Nat} (hk : L[k]? = some i) (hl : L.length ≤ 1000000) : Ch (c.drop i) (L.eraseIdx k) := by
  have u := h.unlink hk hl
  have hn := eraseIdx_not_mem h.nd hk
  refine ⟨u.nd, u.lt, u.head, u.tail, ?_, ?_, u.size⟩
  · intro j x hj
    have hx : x ≠ i := fun e => hn (e ▸ List.mem_of_getElem? hj)
    show upd _ i _ x = _
    rw [upd_other _ _ _ _ hx]; exact u.next j x hj
  · intro j x hj
    have hx : x ≠ i := fun e => hn (e ▸ List.mem_of_getElem? hj)
    show upd _ i _ x = _
    rw [upd_other _ _ _ _ hx]; exact u.prev j x hj

set_option maxHeartbeats 2000000 in
/-- the key is absent and the cache is full -/
theorem put_full (cb nb : Nat) (k v : Int) (c : Cs) (L : List Nat) (w : World) (H : CacheAt w cb nb c) (hL : Ch c L) (hb : L.length ≤ 1000000) (h0 : c.cap ≠ 0) (hf : c.find k = -1) (hsz : c.size = c.cap) :
    Calls Ydwm.prog 25 #[.pointer (some ⟨cb, 0, none⟩), .int .i64 k, .int .i64 v] w (PutPost cb nb c k v w) := by
  have hs := hL.size
  have hLn : L ≠ [] := fun e => by rw [e] at hs; simp at hs; omega
  obtain ⟨t, ht, hpl⟩ := prv_last hLn
  have htl : c.tail = (t : Int) := by rw [hL.tail, hpl]
  have hti := hL.lt t (List.mem_of_getElem? ht)
  have hsz0 : ¬ c.size = 0 := by omega
  have ev : c.evict = c.drop t := by unfold Cs.evict; rw [if_neg hsz0, htl]; rfl
  have e1 : c.put k v = (c.drop t).take.fill t k v := by
    unfold Cs.put; rw [if_neg h0, if_pos hf, if_pos hsz, ev]; unfold Cs.insert
    rw [if_neg (show ¬ (c.drop t).free = -1 by show ¬ (t : Int) = -1; omega)]; rfl
  have e2 : c.putOut k v = c.evicted := by unfold Cs.putOut; rw [if_neg h0, if_pos ⟨hf, hsz⟩]
  have e3 : c.putOk k = true := by unfold Cs.putOk; rw [if_neg h0]; simp [hf, hsz]
  unfold PutPost
  rw [e1, e2, e3]
  have FIND := fun W (h : CacheAt W cb nb c) => find_at cb nb k c W h (by omega) (by omega) hL.slots
  rw [hf] at FIND
  have EV := fun W (h : CacheAt W cb nb c) => Evict_at cb nb c L W h hL
  rw [ev, show (!decide (c.size = 0)) = true by simp; omega] at EV
  generalize c.evicted = o at *
  have hn : 0 < c.n := by omega
  have c4 := H.c4
  have c5 := H.c5
  rw [hsz] at c4
  obtain ⟨hn1, hn2, hn3, hn4⟩ := H.other_new
  have hcz : (c.cap == 0) = false := beq_eq_false_iff_ne.2 h0
  have hlt := H.lt
  have hnlt := H.nlt
  have HH : Hid (CacheAt w cb nb c ∧ Ch (c.drop t) (L.eraseIdx (L.length - 1))) := ⟨H, hL.drop ht hb⟩
  clear H hL e1 e2 e3 h0 hf hs hsz hsz0 ev htl hpl
  go_enter Ydwm.func25, Ydwm.ntmps25
  go_wp2_with fail
  refine (FIND _ (HH.out.1.alloc _)).mono ?_
  rintro e w1 ⟨rfl, rfl⟩
  clear FIND
  go_wp2_with fail
  go_quiet (fail)
  go_wp2_with fail
  refine (EV _ (((HH.out.1.alloc _).alloc _).drewN _)).mono ?_
  rintro e w2 ⟨rfl, H2, K2⟩
  clear EV
  have T := two_new w #[.int .i64 0, .int .i64 0] #[.int .i64 0, .int .i64 0] 28 28
  have KB : Keeps [cb, nb] ((w.alloc (.cells #[.int .i64 0, .int .i64 0] 28)).alloc (.cells #[.int .i64 0, .int .i64 0] 28)) w2 := ((Keeps.refl [cb, nb] _).drewN _).trans K2 (by simp)
  have KT : Keeps [cb, nb] w w2 := (((Keeps.refl [cb, nb] w).alloc _).alloc _).trans KB (by simp)
  have b0 := KB.block w.heap.size (by simp; omega) (by simp; omega)
  have b1 := KB.block (w.heap.size + 1) (by simp) (by simp; omega)
  have q0 : w2.cell? ⟨w.heap.size, 0, none⟩ = some (.int .i64 0) := (World.cell?_of_block b0).trans (T 0).1
  have q1 : w2.cell? ⟨w.heap.size, 1, none⟩ = some (.int .i64 0) := (World.cell?_of_block b0).trans (T 1).1
  have q2 : w2.cell? ⟨w.heap.size + 1, 0, none⟩ = some (.int .i64 0) := (World.cell?_of_block b1).trans (T 0).2.1
  have q3 : w2.cell? ⟨w.heap.size + 1, 1, none⟩ = some (.int .i64 0) := (World.cell?_of_block b1).trans (T 1).2.1
  have q4 : ∀ o, w2.frozen? ⟨w.heap.size, o, none⟩ = false := fun o => (World.frozen?_of_block b0).trans (T o).2.2.1
  have q5 : ∀ o, w2.frozen? ⟨w.heap.size + 1, o, none⟩ = false := fun o => (World.frozen?_of_block b1).trans (T o).2.2.2
  have hd : (c.drop t).n = c.n := rfl
  obtain ⟨hne, ncap, c0, r⟩ := H2.row (show 0 < (c.drop t).n by rw [hd]; exact hn)
  obtain ⟨d0, d1, _, d3, dz⟩ := r.nodes
  have g0 := d0 t hti
  have g1 := d1 t hti
  have g3 := d3 t hti
  have c3 : w2.cell? ⟨cb, 3, none⟩ = some (.int .i64 (t : Int)) := H2.c3
  have hfr := H2.fr
  rw [hd] at c0
  have hiz : ((t : Int) == -1) = false := beq_eq_false_iff_ne.2 (by omega)
  have hti' : (t : Int) < (c.n : Int) := by omega
  have HF : Hid (CacheAt w2 cb nb (c.drop t) ∧ Keeps [cb, nb] w w2) := ⟨H2, KT⟩
  clear H2 K2 KB KT b0 b1 T d0 d1 d3 r hd c4 c5
  go_wp2_with fail
  have hC : CacheAt (((((w2.setCell ⟨w.heap.size + 1, 0, none⟩ (.int .i64 o.1)).setCell ⟨w.heap.size + 1, 1, none⟩ (.int .i64 o.2)).setCell ⟨cb, 3, none⟩ (.int .i64 ((c.drop t).next t))).setCell ⟨nb, t * 4, none⟩ (.int .i64 k)).setCell ⟨nb, t * 4 + 1, none⟩ (.int .i64 v)) cb nb ({ (c.drop t).take with key := upd (c.drop t).take.key t k, val := upd (c.drop t).take.val t v } : Cs) :=
    ((((HF.out.1.setOther _ _ hn3 hn4).setOther _ _ hn3 hn4).setFree ((c.drop t).next t)).setKey hn t k).setVal hn t v
  refine (pushFront_at cb nb t _ _ hC hti HH.out.2.head_ok).mono ?_
  rintro e w3 ⟨rfl, H3, K3, S3⟩
  have KA : Keeps [cb, nb, w.heap.size + 1] w2 w3 := (((((Keeps.refl [cb, nb, w.heap.size + 1] w2).setCell _ _ (by simp)).setCell _ _ (by simp)).setCell _ _ (by simp)).setCell _ _ (by simp)).setCell _ _ (by simp) |>.trans K3 (by simp)
  have KT : Keeps [cb, nb] w w3 := HF.out.2.trans KA (by simp)
  have a0 : w3.cell? ⟨w.heap.size, 0, none⟩ = some (.int .i64 0) := KA.cell q0 (by simp; omega)
  have a1 : w3.cell? ⟨w.heap.size, 1, none⟩ = some (.int .i64 0) := KA.cell q1 (by simp; omega)
  have a4 : ∀ o, w3.frozen? ⟨w.heap.size, o, none⟩ = false := fun o => (World.frozen?_of_block (KA.block w.heap.size (World.block_lt_of_cell? _ _ q0) (by simp; omega))).trans (q4 o)
  have p0 : (w2.setCell ⟨w.heap.size + 1, 0, none⟩ (.int .i64 o.1)).cell? ⟨w.heap.size + 1, 0, none⟩ = some (.int .i64 o.1) := World.cell?_setCell_same _ _ _ q2
  have p1 : (w2.setCell ⟨w.heap.size + 1, 0, none⟩ (.int .i64 o.1)).cell? ⟨w.heap.size + 1, 1, none⟩ = some (.int .i64 0) := by rw [World.cell?_setCell_other _ _ _ _ (addr_ne_off (by omega))]; exact q3
  have r0 : ((w2.setCell ⟨w.heap.size + 1, 0, none⟩ (.int .i64 o.1)).setCell ⟨w.heap.size + 1, 1, none⟩ (.int .i64 o.2)).cell? ⟨w.heap.size + 1, 0, none⟩ = some (.int .i64 o.1) := by rw [World.cell?_setCell_other _ _ _ _ (addr_ne_off (by omega))]; exact p0
  have r1 : ((w2.setCell ⟨w.heap.size + 1, 0, none⟩ (.int .i64 o.1)).setCell ⟨w.heap.size + 1, 1, none⟩ (.int .i64 o.2)).cell? ⟨w.heap.size + 1, 1, none⟩ = some (.int .i64 o.2) := World.cell?_setCell_same _ _ _ p1
  have KC : Keeps [cb, nb] ((w2.setCell ⟨w.heap.size + 1, 0, none⟩ (.int .i64 o.1)).setCell ⟨w.heap.size + 1, 1, none⟩ (.int .i64 o.2)) w3 := (((Keeps.refl [cb, nb] _).setCell _ _ (by simp)).setCell _ _ (by simp)).setCell _ _ (by simp) |>.trans K3 (by simp)
  have a2 : w3.cell? ⟨w.heap.size + 1, 0, none⟩ = some (.int .i64 o.1) := KC.cell r0 (by simp; omega)
  have a3 : w3.cell? ⟨w.heap.size + 1, 1, none⟩ = some (.int .i64 o.2) := KC.cell r1 (by simp; omega)
  have HG : Hid (CacheAt w3 cb nb ((c.drop t).take.fill t k v) ∧ Keeps [cb, nb] w w3) := ⟨H3, KT⟩
  clear hC H3 K3 S3 KT KA KC r0 r1 p0 p1 q0 q1 q2 q3 q4 q5 g0 g1 g3 c0 c3 HF
  go_wp2
  exact bodyPost_ret (v := .tuple #[.agg #[.int .i64 o.1, .int .i64 o.2], .bool true]) (by simp [results, Ydwm.results25, go_sem, a0, a1]) rfl
    ⟨rfl, nb, (HG.out.1.setOther _ _ hn1 hn2).setOther _ _ hn1 hn2, .inl rfl, (HG.out.2.setCell _ _ (.inr (Nat.le_refl _))).setCell _ _ (.inr (Nat.le_refl _))⟩

set_option maxHeartbeats 2000000 in
/-- the key is absent, there is room, and a slot is free -/
theorem put_free (cb nb : Nat) (k v : Int) (c : Cs) (L : List Nat) (w : World) (H : CacheAt w cb nb c) (hL : Ch c L) (hb : L.length ≤ 1000000) (h0 : c.cap ≠ 0) (hf : c.find k = -1) (hsz : c.size ≠ c.cap) (i : Nat) (hfi : c.free = (i : Int)) (hi : i < c.n) :
    Calls Ydwm.prog 25 #[.pointer (some ⟨cb, 0, none⟩), .int .i64 k, .int .i64 v] w (PutPost cb nb c k v w) := by
  have e1 : c.put k v = c.take.fill i k v := by unfold Cs.put; rw [if_neg h0, if_pos hf, if_neg hsz]; unfold Cs.insert; rw [if_neg (by omega), hfi]; rfl
  have e2 : c.putOut k v = (0, 0) := by unfold Cs.putOut; rw [if_neg h0, if_neg (fun e => hsz e.2)]
  have e3 : c.putOk k = false := by unfold Cs.putOk; rw [if_neg h0]; simp [hsz]
  unfold PutPost
  rw [e1, e2, e3]
  have hs := hL.size
  have FIND := fun W (h : CacheAt W cb nb c) => find_at cb nb k c W h (by omega) (by omega) hL.slots
  rw [hf] at FIND
  have hn : 0 < c.n := by omega
  obtain ⟨hne, ncap, c0, r⟩ := H.row hn
  obtain ⟨d0, d1, _, d3, dz⟩ := r.nodes
  have g0 := d0 i hi
  have g1 := d1 i hi
  have g3 := d3 i hi
  have c3 := H.c3
  rw [hfi] at c3
  have c4 := H.c4
  have c5 := H.c5
  have hfr := H.fr
  obtain ⟨hn1, hn2, hn3, hn4⟩ := H.other_new
  have hcz : (c.cap == 0) = false := beq_eq_false_iff_ne.2 h0
  have hsc : (c.size == c.cap) = false := beq_eq_false_iff_ne.2 hsz
  have hiz : ((i : Int) == -1) = false := beq_eq_false_iff_ne.2 (by omega)
  have hi' : (i : Int) < (c.n : Int) := by omega
  have hlt := H.lt
  have hnlt := H.nlt
  have et : c.next i = c.take.free := by unfold Cs.take; rw [hfi]; rfl
  have HH : Hid (CacheAt w cb nb c ∧ Ch c L ∧ c.next i = c.take.free) := ⟨H, hL, et⟩
  clear H hL e1 e2 e3 h0 hf hfi d0 d1 d3 r hs hsz et
  go_enter Ydwm.func25, Ydwm.ntmps25
  go_wp2_with fail
  refine (FIND _ (HH.out.1.alloc _)).mono ?_
  rintro e w1 ⟨rfl, rfl⟩
  clear FIND
  go_wp2_with fail
  go_quiet (fail)
  go_wp2_with fail
  have hC : CacheAt ((((((w.alloc (.cells #[.int .i64 0, .int .i64 0] 28)).alloc (.cells #[.int .i64 0, .int .i64 0] 28)).drewN nq).setCell ⟨cb, 3, none⟩ (.int .i64 (c.next i))).setCell ⟨nb, i * 4, none⟩ (.int .i64 k)).setCell ⟨nb, i * 4 + 1, none⟩ (.int .i64 v)) cb nb ({ c.take with key := upd c.take.key i k, val := upd c.take.val i v } : Cs) := by
    have := (((((HH.out.1.alloc (.cells #[.int .i64 0, .int .i64 0] 28)).alloc (.cells #[.int .i64 0, .int .i64 0] 28)).drewN nq).setFree (c.next i)).setKey hn i k).setVal hn i v
    rw [HH.out.2.2] at this ⊢
    exact this
  refine (pushFront_at cb nb i _ _ hC hi HH.out.2.1.head_ok).mono ?_
  rintro e w3 ⟨rfl, H3, K3, S3⟩
  have T := two_new w #[.int .i64 0, .int .i64 0] #[.int .i64 0, .int .i64 0] 28 28
  have KT : Keeps [cb, nb] w w3 := (((((((Keeps.refl [cb, nb] w).alloc _).alloc _).drewN _).setCell _ _ (by simp)).setCell _ _ (by simp)).setCell _ _ (by simp)).trans K3 (by simp)
  have KB : Keeps [cb, nb] ((w.alloc (.cells #[.int .i64 0, .int .i64 0] 28)).alloc (.cells #[.int .i64 0, .int .i64 0] 28)) w3 := ((((((Keeps.refl [cb, nb] _).drewN _).setCell _ _ (by simp)).setCell _ _ (by simp)).setCell _ _ (by simp))).trans K3 (by simp)
  have b0 := KB.block w.heap.size (by simp; omega) (by simp; omega)
  have b1 := KB.block (w.heap.size + 1) (by simp) (by simp; omega)
  have q0 : w3.cell? ⟨w.heap.size, 0, none⟩ = some (.int .i64 0) := (World.cell?_of_block b0).trans (T 0).1
  have q1 : w3.cell? ⟨w.heap.size, 1, none⟩ = some (.int .i64 0) := (World.cell?_of_block b0).trans (T 1).1
  have q2 : w3.cell? ⟨w.heap.size + 1, 0, none⟩ = some (.int .i64 0) := (World.cell?_of_block b1).trans (T 0).2.1
  have q3 : w3.cell? ⟨w.heap.size + 1, 1, none⟩ = some (.int .i64 0) := (World.cell?_of_block b1).trans (T 1).2.1
  have q4 : ∀ o, w3.frozen? ⟨w.heap.size, o, none⟩ = false := fun o => (World.frozen?_of_block b0).trans (T o).2.2.1
  have HF : Hid (CacheAt w3 cb nb (c.take.fill i k v) ∧ Keeps [cb, nb] w w3) := ⟨H3, KT⟩
  clear hC H3 K3 S3 KT KB b0 b1 T
  go_wp2
  exact bodyPost_ret (v := .tuple #[.agg #[.int .i64 0, .int .i64 0], .bool false]) (by simp [results, Ydwm.results25, go_sem, q0, q1]) rfl
    ⟨rfl, nb, (HF.out.1.setOther _ _ hn1 hn2).setOther _ _ hn1 hn2, .inl rfl, (HF.out.2.setCell _ _ (.inr (Nat.le_refl _))).setCell _ _ (.inr (Nat.le_refl _))⟩

/-- the slice of slots, nil or not -/
theorem CacheAt.slots {w : World} {cb nb : Nat} {c : Cs} (H : CacheAt w cb nb c) : ∃ a ncap, w.cell? ⟨cb, 0, none⟩ = some (.slice a c.n ncap) ∧ SliceAt w 30 4 (.slice a c.n ncap) c.n (ncell c.key c.val c.prev c.next) ∧ ∀ b, (Value.slice a c.n ncap).ownBlock = some b → b = nb ∧ nb ≠ cb := by
  rcases H.nod with ⟨_, h0, hc⟩ | ⟨hne, ncap, hc, r⟩
  · refine ⟨none, 0, by rw [h0]; exact hc, .inl ⟨by rw [h0], h0⟩, fun b hb => by simp [Value.ownBlock] at hb⟩
  · exact ⟨_, ncap, hc, r.sliceAt, fun b hb => ⟨by simpa [Value.ownBlock] using hb.symm, hne⟩⟩

set_option maxHeartbeats 2000000 in
/-- the key is absent, there is room, and no slot is free -/
theorem put_new (cb nb : Nat) (k v : Int) (c : Cs) (L : List Nat) (w : World) (H : CacheAt w cb nb c) (hL : Ch c L) (hb : L.length ≤ 1000000) (h0 : c.cap ≠ 0) (hf : c.find k = -1) (hsz : c.size ≠ c.cap) (hfi : c.free = -1) (hnn : c.n ≤ 1000000) :
    Calls Ydwm.prog 25 #[.pointer (some ⟨cb, 0, none⟩), .int .i64 k, .int .i64 v] w (PutPost cb nb c k v w) := by
  have e1 : c.put k v = c.grow.fill c.n k v := by unfold Cs.put; rw [if_neg h0, if_pos hf, if_neg hsz]; unfold Cs.insert; rw [if_pos hfi]
  have e2 : c.putOut k v = (0, 0) := by unfold Cs.putOut; rw [if_neg h0, if_neg (fun e => hsz e.2)]
  have e3 : c.putOk k = false := by unfold Cs.putOk; rw [if_neg h0]; simp [hsz]
  unfold PutPost
  rw [e1, e2, e3]
  have hs := hL.size
  have FIND := fun W (h : CacheAt W cb nb c) => find_at cb nb k c W h (by omega) (by omega) hL.slots
  rw [hf] at FIND
  obtain ⟨a, ncap, c0, hS, hown⟩ := H.slots
  have c3 := H.c3
  rw [hfi] at c3
  have c4 := H.c4
  have c5 := H.c5
  have hfr := H.fr
  obtain ⟨hn1, hn2, hn3, hn4⟩ := H.other_new
  have hcz : (c.cap == 0) = false := beq_eq_false_iff_ne.2 h0
  have hsc : (c.size == c.cap) = false := beq_eq_false_iff_ne.2 hsz
  have hlt := H.lt
  have hnlt := H.nlt
  have HH : Hid (CacheAt w cb nb c ∧ Ch c L ∧ SliceAt w 30 4 (.slice a c.n ncap) c.n (ncell c.key c.val c.prev c.next) ∧ ∀ b, (Value.slice a c.n ncap).ownBlock = some b → b = nb ∧ nb ≠ cb) := ⟨H, hL, hS, hown⟩
  clear H hL e1 e2 e3 h0 hf hfi hs hsz hS hown
  obtain ⟨i0, hi0, hz0, hz1, hz2⟩ := info_parts infoNode
  go_enter Ydwm.func25, Ydwm.ntmps25
  go_wp2_with fail
  refine (FIND _ (HH.out.1.alloc _)).mono ?_
  rintro e w1 ⟨rfl, rfl⟩
  clear FIND
  go_wp2_with fail
  go_quiet (fail)
  go_wp2_with (at_builtin; refine wp_append1 _ rfl (.tmp 68) (.tmp 70) 31 rfl 30 i0 _ 4 32 Ydwm.underlying31 hi0 hz0 hz1 hz2 rfl (by omega) (.slice a c.n ncap) c.n (ncell c.key c.val c.prev c.next) rfl ?hS (w.heap.size + 1 + 1) rfl #[.int .i64 0, .int .i64 0, .int .i64 (-1), .int .i64 (-1)] 30 ?hB rfl ?h1 (by omega) (by omega) ?_)
  case hS => exact (((HH.out.2.2.1.alloc _).alloc _).keeps ((Keeps.refl [] _).drewN nq) (by simp)).alloc _
  case hB =>
    have := heap_alloc_new (((w.alloc (.cells #[.int .i64 0, .int .i64 0] 28)).alloc (.cells #[.int .i64 0, .int .i64 0] 28)).drewN nq) (.cells #[.int .i64 0, .int .i64 0, .int .i64 (-1), .int .i64 (-1)] 30)
    simpa using this
  case h1 => first | exact ⟨rfl, rfl⟩ | (simp; exact ⟨rfl, rfl⟩)
  intro b' cap' w2 hr hk hbb
  have hr2 : RowAt w2 b' 30 4 (c.n + 1) cap' (ncell c.grow.key c.grow.val c.grow.prev c.grow.next) := hr.congr (fun j hj => snoc_ncell c.n _ _ _ _ _ _ _ _ j hj)
  have hcn : cb ∉ (Value.slice a c.n ncap).ownBlock.toList := fun hx => by
    have := HH.out.2.2.2 cb (by simpa using hx)
    exact this.2 this.1.symm
  have hbn : ∀ x, w.heap.size ≤ x → x ∉ (Value.slice a c.n ncap).ownBlock.toList := fun x hx1 hx => by
    have := HH.out.2.2.2 x (by simpa using hx)
    omega
  have hb3 : (b' = nb ∧ nb ≠ cb) ∨ w.heap.size + 3 ≤ b' := by
    rcases hbb with h | h
    · exact .inl (HH.out.2.2.2 b' h)
    · right; simpa using h
  have hbc : b' ≠ cb := by rcases hb3 with ⟨h1, h2⟩ | h <;> omega
  have hbd : b' ≠ w.heap.size ∧ b' ≠ w.heap.size + 1 := by rcases hb3 with ⟨h1, h2⟩ | h <;> omega
  have KW : Keeps [cb, nb] w w2 := (((((Keeps.refl [cb, nb] w).alloc _).alloc _).drewN _).alloc _).trans hk (fun x hx => by
    have := HH.out.2.2.2 x (by simpa using hx)
    left; simp [this.1])
  have bc := hk.block cb (by simp; omega) hcn
  have bw : ∀ o, w2.cell? ⟨cb, o, none⟩ = w.cell? ⟨cb, o, none⟩ := fun o => (World.cell?_of_block bc).trans (by
    rw [World.cell?_alloc_lt _ _ _ (by simp; omega)]
    show ((w.alloc _).alloc _).cell? _ = _
    rw [World.cell?_alloc_lt _ _ _ (by simp; omega), World.cell?_alloc_lt _ _ _ (by simp; omega)])
  have bz : ∀ o, w2.frozen? ⟨cb, o, none⟩ = false := fun o => (World.frozen?_of_block bc).trans (by
    rw [World.frozen?_alloc_old _ _ _ (by simp; omega)]
    show ((w.alloc _).alloc _).frozen? _ = _
    rw [World.frozen?_alloc_old _ _ _ (by simp; omega), World.frozen?_alloc_old _ _ _ (by simp; omega)]; exact hfr o)
  have T := two_new w #[.int .i64 0, .int .i64 0] #[.int .i64 0, .int .i64 0] 28 28
  have KX : Keeps (Value.slice a c.n ncap).ownBlock.toList ((w.alloc (.cells #[.int .i64 0, .int .i64 0] 28)).alloc (.cells #[.int .i64 0, .int .i64 0] 28)) w2 := (((Keeps.refl _ _).drewN nq).alloc _).trans hk (fun x hx => .inl hx)
  have b0 := KX.block w.heap.size (by simp; omega) (hbn _ (by omega))
  have b1 := KX.block (w.heap.size + 1) (by simp) (hbn _ (by omega))
  have q0 : w2.cell? ⟨w.heap.size, 0, none⟩ = some (.int .i64 0) := (World.cell?_of_block b0).trans (T 0).1
  have q1 : w2.cell? ⟨w.heap.size, 1, none⟩ = some (.int .i64 0) := (World.cell?_of_block b0).trans (T 1).1
  have q2 : w2.cell? ⟨w.heap.size + 1, 0, none⟩ = some (.int .i64 0) := (World.cell?_of_block b1).trans (T 0).2.1
  have q3 : w2.cell? ⟨w.heap.size + 1, 1, none⟩ = some (.int .i64 0) := (World.cell?_of_block b1).trans (T 1).2.1
  have q4 : ∀ o, w2.frozen? ⟨w.heap.size, o, none⟩ = false := fun o => (World.frozen?_of_block b0).trans (T o).2.2.1
  have x0 : w2.cell? ⟨cb, 0, none⟩ = some (.slice a c.n ncap) := (bw 0).trans c0
  have HC : CacheAt (w2.setCell ⟨cb, 0, none⟩ (.slice (some ⟨b', 0, none⟩) (c.n + 1) cap')) cb b' c.grow := by
    have ot : ∀ (o : Nat) (y : Int), 1 ≤ o → w.cell? ⟨cb, o, none⟩ = some (.int .i64 y) → (w2.setCell ⟨cb, 0, none⟩ (.slice (some ⟨b', 0, none⟩) (c.n + 1) cap')).cell? ⟨cb, o, none⟩ = some (.int .i64 y) := fun o y ho h => by
      rw [World.cell?_setCell_other _ _ _ _ (addr_ne_off (by omega)), bw]; exact h
    have HH1 := HH.out.1
    exact ⟨.inr ⟨hbc, cap', World.cell?_setCell_same _ _ _ x0, hr2.setOther _ _ hbc⟩, ot 1 _ (by omega) HH1.c1, ot 2 _ (by omega) HH1.c2, ot 3 _ (by omega) HH1.c3, ot 4 _ (by omega) HH1.c4, ot 5 _ (by omega) HH1.c5, fun o => by rw [World.frozen?_setCell]; exact bz o⟩
  obtain ⟨d0, d1, _, _, dz⟩ := hr2.nodes
  have g0 := d0 c.n (by omega)
  have g1 := d1 c.n (by omega)
  have hne1 : cb ≠ b' := fun e => hbc e.symm
  have HF : Hid (CacheAt (w2.setCell ⟨cb, 0, none⟩ (.slice (some ⟨b', 0, none⟩) (c.n + 1) cap')) cb b' c.grow ∧ Keeps [cb, nb] w w2) := ⟨HC, KW⟩
  clear hr hk hbb HC KW bc bw T KX b0 b1 d0 d1 hr2 hcn hbn c0 c3 c4 c5
  go_wp2_with fail
  have hgn : 0 < c.grow.n := Nat.succ_pos _
  have hC := (HF.out.1.setKey hgn c.n k).setVal hgn c.n v
  have hhd : c.head = -1 ∨ ∃ h : Nat, c.head = h ∧ h < c.n + 1 := by
    rcases HH.out.2.1.head_ok with h | ⟨p, h1, h2⟩
    · exact .inl h
    · exact .inr ⟨p, h1, by omega⟩
  refine (pushFront_at cb b' c.n ({ c.grow with key := upd c.grow.key c.n k, val := upd c.grow.val c.n v } : Cs) _ hC (Nat.lt_succ_self _) hhd).mono ?_
  rintro e w3 ⟨rfl, H3, K3, S3⟩
  have KA : Keeps [cb, b'] w2 w3 := (((Keeps.refl [cb, b'] w2).setCell _ _ (by simp)).setCell _ _ (by simp)).setCell _ _ (by simp) |>.trans K3 (by simp)
  have KT : Keeps [cb, nb] w w3 := HF.out.2.trans KA (by
    intro x hx
    simp at hx
    rcases hx with rfl | rfl
    · left; simp
    · rcases hb3 with ⟨h, _⟩ | h
      · left; simp [h]
      · right; omega)
  have a0 : w3.cell? ⟨w.heap.size, 0, none⟩ = some (.int .i64 0) := KA.cell q0 (by simp; omega)
  have a1 : w3.cell? ⟨w.heap.size, 1, none⟩ = some (.int .i64 0) := KA.cell q1 (by simp; omega)
  have a2 : w3.cell? ⟨w.heap.size + 1, 0, none⟩ = some (.int .i64 0) := KA.cell q2 (by simp; omega)
  have a3 : w3.cell? ⟨w.heap.size + 1, 1, none⟩ = some (.int .i64 0) := KA.cell q3 (by simp; omega)
  have a4 : ∀ o, w3.frozen? ⟨w.heap.size, o, none⟩ = false := fun o => (World.frozen?_of_block (KA.block w.heap.size (World.block_lt_of_cell? _ _ q0) (by simp; omega))).trans (q4 o)
  have hbs : b' = nb ∨ w.heap.size ≤ b' := by rcases hb3 with ⟨h, _⟩ | h; exact .inl h; right; omega
  have HG : Hid (CacheAt w3 cb b' (c.grow.fill c.n k v) ∧ Keeps [cb, nb] w w3) := ⟨H3, KT⟩
  have hbd1 := hbd.1
  clear hC H3 K3 S3 KT KA q0 q1 q2 q3 q4 g0 g1 x0 hhd HF
  go_wp2
  exact bodyPost_ret (v := .tuple #[.agg #[.int .i64 0, .int .i64 0], .bool false]) (by simp [results, Ydwm.results25, go_sem, a0, a1]) rfl
    ⟨rfl, b', (HG.out.1.setOther _ _ hn1 hbd1).setOther _ _ hn1 hbd1, hbs, (HG.out.2.setCell _ _ (.inr (Nat.le_refl _))).setCell _ _ (.inr (Nat.le_refl _))⟩

/-- Put, of every cache whose list and free list are whole -/
theorem Put_at (cb nb : Nat) (k v : Int) (c : Cs) (L : List Nat) (w : World) (H : CacheAt w cb nb c) (hL : Ch c L) (hb : L.length ≤ 1000000) (hnn : c.n ≤ 1000000) (hfr : c.free = -1 ∨ ∃ i : Nat, c.free = i ∧ i < c.n) :
    Calls Ydwm.prog 25 #[.pointer (some ⟨cb, 0, none⟩), .int .i64 k, .int .i64 v] w (PutPost cb nb c k v w) := by
  by_cases h0 : c.cap = 0
  · exact put_zero cb nb k v c w H h0
  rcases hL.find_cases k with ⟨_, hf⟩ | ⟨p, x, _, hp, hf, _, _⟩
  · by_cases hsz : c.size = c.cap
    · exact put_full cb nb k v c L w H hL hb h0 hf hsz
    · rcases hfr with hfi | ⟨i, hfi, hi⟩
      · exact put_new cb nb k v c L w H hL hb h0 hf hsz hfi hnn
      · exact put_free cb nb k v c L w H hL hb h0 hf hsz i hfi hi
  · exact put_hit cb nb k v c L w H hL hb h0 p x hp hf
end Go.Proofs.Ymbrdw
