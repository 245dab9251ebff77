/- alink. -/
import Derived.Test.YmbrdvAOrd
import Derived.BigRegion
import Derived.Laws.NewBlocks
namespace Go.Proofs.Ymbrdv
open Go.RowKit

/-- the newest free slot below s -/
def lf (V : Nat → Int) : Nat → Int
  | 0 => -1
  | s + 1 => if kd (V s) = 2 then (s : Int) else lf V s
def fx (V : Nat → Int) (s : Nat) : Int := if kd (V s) = 2 then lf V s else -1
/-- the links when the first k places are linked -/
def lkp (L : List Nat) : Nat → Nat → Int
  | 0 => fun _ => -1
  | k + 1 => if k = 0 then lkp L k else upd (lkp L k) (nth L k).toNat (nth L (k - 1))
def lkx (f : Nat → Int) (L : List Nat) : Nat → Nat → Int
  | 0 => f
  | k + 1 => if k + 1 < L.length then upd (lkx f L k) (nth L k).toNat (nth L (k + 1)) else lkx f L k
theorem lkp_out {L : List Nat} {x : Nat} (hx : x ∉ L) (k : Nat) (hk : k ≤ L.length) : lkp L k x = -1 := by
  induction k with
  | zero => rfl
  | succ k ih =>
    unfold lkp
    have hg : L[k]? = some L[k] := List.getElem?_eq_getElem (by omega)
    split
    · exact ih (by omega)
    · rw [nth_some hg, Int.toNat_natCast, upd_other _ _ _ _ (fun e => hx (by rw [e]; exact List.mem_of_getElem? hg))]; exact ih (by omega)
theorem lkx_out {f : Nat → Int} {L : List Nat} {x : Nat} (hx : x ∉ L) (k : Nat) (hk : k ≤ L.length) : lkx f L k x = f x := by
  induction k with
  | zero => rfl
  | succ k ih =>
    unfold lkx
    have hg : L[k]? = some L[k] := List.getElem?_eq_getElem (by omega)
    split
    · rw [nth_some hg, Int.toNat_natCast, upd_other _ _ _ _ (fun e => hx (by rw [e]; exact List.mem_of_getElem? hg))]; exact ih (by omega)
    · exact ih (by omega)
theorem lkp_get {L : List Nat} (hd : L.Nodup) {j x : Nat} (hj : L[j]? = some x) (k : Nat) (hk : k ≤ L.length) : lkp L k x = if j < k then prv L j else -1 := by
  induction k with
  | zero => rw [if_neg (by omega)]; rfl
  | succ k ih =>
    have hg : L[k]? = some L[k] := List.getElem?_eq_getElem (by omega)
    unfold lkp
    by_cases e : j = k
    · subst e
      rw [if_pos (show j < j + 1 by omega)]
      by_cases h0 : j = 0
      · rw [if_pos h0, ih (by omega), if_neg (by omega), h0]; rfl
      · rw [if_neg h0, nth_some hj, Int.toNat_natCast, upd_same]; unfold prv; rw [if_neg h0]
    · have hne : x ≠ L[k] := fun e' => e (nodup_idx hd hj (e' ▸ hg))
      split
      · rw [ih (by omega), if_neg (by omega), if_neg (by omega)]
      · rw [nth_some hg, Int.toNat_natCast, upd_other _ _ _ _ hne, ih (by omega)]
        by_cases h : j < k
        · rw [if_pos h, if_pos (by omega)]
        · rw [if_neg h, if_neg (by omega)]
theorem lkx_get {f : Nat → Int} {L : List Nat} (hd : L.Nodup) {j x : Nat} (hj : L[j]? = some x) (k : Nat) (hk : k ≤ L.length) : lkx f L k x = if j < k ∧ j + 1 < L.length then nth L (j + 1) else f x := by
  induction k with
  | zero => rw [if_neg (by omega)]; rfl
  | succ k ih =>
    have hg : L[k]? = some L[k] := List.getElem?_eq_getElem (by omega)
    unfold lkx
    by_cases e : j = k
    · subst e
      split
      · rename_i h0
        rw [nth_some hj, Int.toNat_natCast, upd_same, if_pos ⟨by omega, h0⟩]
      · rename_i h0
        rw [ih (by omega), if_neg (by omega), if_neg (by omega)]
    · have hne : x ≠ L[k] := fun e' => e (nodup_idx hd hj (e' ▸ hg))
      split
      · rw [nth_some hg, Int.toNat_natCast, upd_other _ _ _ _ hne, ih (by omega)]
        by_cases h : j < k ∧ j + 1 < L.length
        · rw [if_pos h, if_pos ⟨by omega, h.2⟩]
        · rw [if_neg h, if_neg (by omega)]
      · rw [ih (by omega)]
        by_cases h : j < k ∧ j + 1 < L.length
        · rw [if_pos h, if_pos ⟨by omega, h.2⟩]
        · rw [if_neg h, if_neg (by omega)]
/-- the cache that alink makes -/
def linkC (V : Nat → Int) (m : Nat) (L : List Nat) : Cs :=
  ⟨m, fun i => (i : Int), V, lkp L L.length, lkx (fx V) L L.length, nth L 0, prv L L.length, lf V m, L.length, m⟩
theorem linkC_ch {V : Nat → Int} {m : Nat} {L : List Nat} (hd : L.Nodup) (hL : ∀ x ∈ L, x < m ∧ kd (V x) ≠ 2) : Ch (linkC V m L) L := by
  refine ⟨hd, fun x hx => (hL x hx).1, rfl, rfl, fun k x hk => ?_, fun k x hk => ?_, rfl⟩
  · have hkl := (List.getElem?_eq_some_iff.1 hk).1
    show lkx (fx V) L L.length x = _
    rw [lkx_get hd hk _ (Nat.le_refl _)]
    by_cases h : k + 1 < L.length
    · rw [if_pos ⟨hkl, h⟩]
    · rw [if_neg (by omega), nth_ge (by omega)]
      unfold fx; rw [if_neg (hL x (List.mem_of_getElem? hk)).2]
  · have hkl := (List.getElem?_eq_some_iff.1 hk).1
    show lkp L L.length x = _
    rw [lkp_get hd hk _ (Nat.le_refl _), if_pos hkl]

theorem CacheAt.setNodes {w : World} {cb nb m ncap : Nat} {c : Cs} {k v p x : Nat → Int} (h : CacheAt w cb cb c) (r : RowAt w nb 38 4 m ncap (ncell k v p x)) (hne : nb ≠ cb) (hs : ∃ u, w.cell? ⟨cb, 0, none⟩ = some u) :
    CacheAt (w.setCell ⟨cb, 0, none⟩ (.slice (some ⟨nb, 0, none⟩) m ncap)) cb nb ⟨m, k, v, p, x, c.head, c.tail, c.free, c.size, c.cap⟩ := by
  obtain ⟨u, hu⟩ := hs
  have kk : ∀ i, i ≠ 0 → (w.setCell ⟨cb, 0, none⟩ (.slice (some ⟨nb, 0, none⟩) m ncap)).cell? ⟨cb, i, none⟩ = w.cell? ⟨cb, i, none⟩ := fun i hi => World.cell?_setCell_other _ _ _ _ (addr_ne_off (by omega))
  exact ⟨.inr ⟨hne, ncap, World.cell?_setCell_same _ _ _ hu, r.setOther _ _ hne⟩, by rw [kk _ (by omega)]; exact h.c1, by rw [kk _ (by omega)]; exact h.c2, by rw [kk _ (by omega)]; exact h.c3, by rw [kk _ (by omega)]; exact h.c4, by rw [kk _ (by omega)]; exact h.c5, fun o => by rw [World.frozen?_setCell]; exact h.fr o⟩

/-- what alink answers -/
def LinkPost (C : Cs) (w : World) (e : Ending) (w' : World) : Prop := ∃ cb nb, e = .returned (.pointer (some ⟨cb, 0, none⟩)) ∧ CacheAt w' cb nb C ∧ w.heap.size ≤ cb ∧ w.heap.size ≤ nb ∧ Keeps [] w w'

/-- what stands while the slots are filled -/
def fillC (V : Nat → Int) (m s : Nat) : Cs := ⟨m, part s (fun i => (i : Int)), part s V, part s (fun _ => -1), part s (fx V), -1, -1, lf V s, 0, m⟩
/-- what stands while the places are linked -/
def placeC (V : Nat → Int) (m : Nat) (L : List Nat) (k : Nat) : Cs := ⟨m, fun i => (i : Int), V, lkp L k, lkx (fx V) L k, -1, -1, lf V m, 0, m⟩

theorem fillC_step {w : World} {cb nb m s : Nat} {V : Nat → Int} {W : World} (h : CacheAt w cb nb (fillC V m s)) (hs : s < m) (h2 : kd (V s) = 2)
    (hW : W = (((((w.setCell ⟨cb, 3, none⟩ (.int .i64 (s : Int))).setCell ⟨nb, s * 4, none⟩ (.int .i64 (s : Int))).setCell ⟨nb, s * 4 + 1, none⟩ (.int .i64 (V s))).setCell ⟨nb, s * 4 + 2, none⟩ (.int .i64 (-1))).setCell ⟨nb, s * 4 + 3, none⟩ (.int .i64 (lf V s)))) : CacheAt W cb nb (fillC V m (s + 1)) := by
  subst hW
  have hn : 0 < (fillC V m s).n := by show 0 < m; omega
  have := ((((h.setFree (s : Int)).setKey hn s (s : Int)).setVal hn s (V s)).setPrev hn s (-1)).setNext hn s (lf V s)
  dsimp only [fillC] at this
  rw [part_step s (fun i => (i : Int)) _ rfl, part_step s V _ rfl, part_step s (fun _ => -1) _ rfl, part_step s (fx V) _ (by unfold fx; rw [if_pos h2])] at this
  unfold fillC
  rw [show lf V (s + 1) = (s : Int) from if_pos h2]
  exact this
theorem fillC_step' {w : World} {cb nb m s : Nat} {V : Nat → Int} {W : World} (h : CacheAt w cb nb (fillC V m s)) (hs : s < m) (h2 : kd (V s) ≠ 2)
    (hW : W = ((((w.setCell ⟨nb, s * 4, none⟩ (.int .i64 (s : Int))).setCell ⟨nb, s * 4 + 1, none⟩ (.int .i64 (V s))).setCell ⟨nb, s * 4 + 2, none⟩ (.int .i64 (-1))).setCell ⟨nb, s * 4 + 3, none⟩ (.int .i64 (-1)))) : CacheAt W cb nb (fillC V m (s + 1)) := by
  subst hW
  have hn : 0 < (fillC V m s).n := by show 0 < m; omega
  have := (((h.setKey hn s (s : Int)).setVal hn s (V s)).setPrev hn s (-1)).setNext hn s (-1)
  dsimp only [fillC] at this
  rw [part_step s (fun i => (i : Int)) _ rfl, part_step s V _ rfl, part_step s (fun _ => -1) _ rfl, part_step s (fx V) _ (by unfold fx; rw [if_neg h2])] at this
  unfold fillC
  rw [show lf V (s + 1) = lf V s from if_neg h2]
  exact this
theorem fillC_full {w : World} {cb nb m : Nat} {V : Nat → Int} {L : List Nat} (h : CacheAt w cb nb (fillC V m m)) : CacheAt w cb nb (placeC V m L 0) :=
  h.congr (k := fun i => (i : Int)) (v := V) (p := fun _ => -1) (x := fx V) (fun _ hi => if_pos hi) (fun _ hi => if_pos hi) (fun _ hi => if_pos hi) (fun _ hi => if_pos hi)

set_option maxRecDepth 100000 in
set_option maxHeartbeats 4000000 in
theorem alink_at (w : World) (b off : Nat) (a : Option Addr) (m cap : Nat) (V : Nat → Int) (hE : InRow w b off a m 1 (fun j => .int .i64 (V j))) (hm : m ≤ 2000) (h0 : 0 < m)
    (b' off' : Nat) (a' : Option Addr) (cap' : Nat) (L : List Nat) (hF : InRow w b' off' a' L.length 1 (fun j => .int .i64 (nth L j))) (hL : ∀ x ∈ L, x < m) (hll : L.length ≤ 2000) :
    Calls Ydvm.prog 17 #[.slice a m cap, .slice a' L.length cap'] w (LinkPost (linkC V m L) w) := by
  have hm' : (m : Int) ≤ 2000 := by omega
  have hll' : (L.length : Int) ≤ 2000 := by omega
  have hmk := make_nodes m (by omega)
  have HE : Hid _ := hE
  have HF : Hid _ := hF
  have HL : Hid _ := hL
  obtain rfl := hE.addr (by omega)
  have hbw := hE.lt (by omega)
  have hbw' : 0 < L.length → b' < w.heap.size := hF.lt
  clear hE hF hL
  go_enter Ydvm.func17, Ydvm.ntmps17
  go_wp2_with fail
  refine (New_at m w).mono ?_
  rintro e w1 ⟨rfl, H1, K1, S1⟩
  have hmx : max (m : Int) 0 = m := by omega
  have c0 : w1.cell? ⟨w.heap.size, 0, none⟩ = some (.slice none 0 0) := by
    rcases H1.nod with ⟨_, _, h⟩ | ⟨h, _⟩
    · exact h
    · exact absurd rfl h
  have fr := H1.fr
  have hw1 := H1.lt
  have RN := RowAt.madeNodes w1 38 m (fun i => (i : Int)) V (fun _ => -1) (fx V) (by unfold maxLen; omega)
  have H2 := H1.alloc (.cells (madeCells #[.int .i64 0, .int .i64 0, .int .i64 0, .int .i64 0] (m * 4)) 38)
  have c02 : (w1.alloc (.cells (madeCells #[.int .i64 0, .int .i64 0, .int .i64 0, .int .i64 0] (m * 4)) 38)).cell? ⟨w.heap.size, 0, none⟩ = some (.slice none 0 0) := by
    rw [World.cell?_of_block (w := w1) (hold w1 _ _ hw1)]; exact c0
  have H3 := CacheAt.setNodes H2 RN (by omega) ⟨_, c02⟩
  have e3 : (⟨m, part 0 (fun i => (i : Int)), part 0 V, part 0 (fun _ => -1), part 0 (fx V), (Cs.new m).head, (Cs.new m).tail, (Cs.new m).free, (Cs.new m).size, (Cs.new m).cap⟩ : Cs) = fillC V m 0 := by
    unfold fillC Cs.new; rw [hmx]; rfl
  rw [e3, S1] at H3
  have HH3 : Hid _ := H3
  have HK1 : Hid _ := K1
  clear H1 K1 RN H2 H3 e3 c02
  have hne1 : b ≠ w.heap.size := by omega
  go_wp2
  go_loopw [22] (fun i wr => ∃ s : Nat, s ≤ m ∧ i = .int .i64 s ∧ CacheAt wr w.heap.size (w.heap.size + 1) (fillC V m s) ∧ Keeps [] w wr) (fun i _ => m - (intOf i).toNat)
  case atStart =>
    have h := HH3.out
    rw [World.setCell_alloc_past _ _ _ _ hw1] at h
    exact ⟨0, by omega, rfl, h, (HK1.out.setCell _ _ (.inr (Nat.le_refl _))).alloc _⟩
  case round =>
    clear HH3 c0 fr S1 hmk
    obtain ⟨s, hs, rfl, hC, hK⟩ := hrel
    by_cases hlt : s < m
    · have hlt' : (s : Int) < (m : Int) := by omega
      have E1 := HE.out.keeps hK (by simp)
      have g0 := E1.cell s (by omega)
      obtain ⟨hne, ncap, q0, R⟩ := hC.row (show 0 < m by omega)
      have q0' : wr.cell? ⟨w.heap.size, 0, none⟩ = some (.slice (some ⟨w.heap.size + 1, 0, none⟩) m ncap) := q0
      have q3 : wr.cell? ⟨w.heap.size, 3, none⟩ = some (.int .i64 (lf V s)) := hC.c3
      obtain ⟨x0, x1, x2, x3, fz⟩ := R.nodes
      have z0 := x0 s hlt
      have z1 := x1 s hlt
      have z2 := x2 s hlt
      have z3 := x3 s hlt
      have fc := hC.fr
      have hbl := E1.lt (by omega)
      have HR : Hid (CacheAt wr w.heap.size (w.heap.size + 1) (fillC V m s) ∧ Keeps [] w wr) := ⟨hC, hK⟩
      clear hC hK R x0 x1 x2 x3 q0 E1
      by_cases h2 : kd (V s) = 2
      · have hb : ((IntKind.u64.wrap (V s)).tmod 3 == 2) = true := beq_iff_eq.2 h2
        have H2 : Hid (kd (V s) = 2) := h2
        clear h2
        go_wp2
        go_roundw
        case rel => exact ⟨s + 1, by omega, by go_num, fillC_step HR.out.1 hlt H2.out rfl, ((((HR.out.2.setCell _ _ (.inr (Nat.le_refl _))).setCell _ _ (.inr (Nat.le_succ _))).setCell _ _ (.inr (Nat.le_succ _))).setCell _ _ (.inr (Nat.le_succ _))).setCell _ _ (.inr (Nat.le_succ _))⟩
        case measure => simp [intOf]; omega
      · have hb : ((IntKind.u64.wrap (V s)).tmod 3 == 2) = false := beq_eq_false_iff_ne.2 h2
        have H2 : Hid (¬ kd (V s) = 2) := h2
        clear h2
        go_wp2
        go_roundw
        case rel => exact ⟨s + 1, by omega, by go_num, fillC_step' HR.out.1 hlt H2.out rfl, (((HR.out.2.setCell _ _ (.inr (Nat.le_succ _))).setCell _ _ (.inr (Nat.le_succ _))).setCell _ _ (.inr (Nat.le_succ _))).setCell _ _ (.inr (Nat.le_succ _))⟩
        case measure => simp [intOf]; omega
    · have hlt' : ¬ (s : Int) < (m : Int) := by omega
      obtain rfl : s = m := by omega
      have hC0 := fillC_full (L := L) hC
      clear hC
      go_wp2
      generalize wr = wo0 at *
      go_loopw [53] (fun i wr => ∃ k : Nat, k ≤ L.length ∧ i = .int .i64 k ∧ CacheAt wr w.heap.size (w.heap.size + 1) (placeC V s L k) ∧ Keeps [] w wr) (fun i _ => L.length - (intOf i).toNat)
      case atStart => exact ⟨0, by omega, rfl, hC0, hK⟩
      case round =>
        clear hC0 hK
        obtain ⟨k, hk, rfl, hC, hK⟩ := hrel
        by_cases hkl : k < L.length
        · have hkl' : (k : Int) < (L.length : Int) := by omega
          have F1 := HF.out.keeps hK (by simp)
          obtain rfl := F1.addr (by omega)
          have hbl := F1.lt (by omega)
          have hbw2 := hbw' (by omega)
          have hne2 : b' ≠ w.heap.size := by omega
          have hne3 : b' ≠ w.heap.size + 1 := by omega
          obtain ⟨x, hx⟩ : ∃ x, L[k]? = some x := ⟨_, List.getElem?_eq_getElem hkl⟩
          have hxm := HL.out x (List.mem_of_getElem? hx)
          have hxm' : (x : Int) < (s : Int) := by omega
          have g0 := F1.cell k (by omega)
          rw [nth_some hx] at g0
          obtain ⟨hne, ncap, q0, R⟩ := hC.row (show 0 < s by omega)
          have q0' : wr.cell? ⟨w.heap.size, 0, none⟩ = some (.slice (some ⟨w.heap.size + 1, 0, none⟩) s ncap) := q0
          obtain ⟨_, _, x2, x3, fz⟩ := R.nodes
          have z2 := x2 x hxm
          have z3 := x3 x hxm
          have HR : Hid (CacheAt wr w.heap.size (w.heap.size + 1) (placeC V s L k) ∧ Keeps [] w wr ∧ L[k]? = some x) := ⟨hC, hK, hx⟩
          have fin1 : 0 < k → CacheAt (wr.setCell ⟨w.heap.size + 1, x * 4 + 2, none⟩ (.int .i64 (nth L (k - 1)))) w.heap.size (w.heap.size + 1) { placeC V s L k with prev := lkp L (k + 1) } := fun h => by
            have := HR.out.1.setPrev (show 0 < s by omega) x (nth L (k - 1))
            rw [show lkp L (k + 1) = upd (lkp L k) x (nth L (k - 1)) by show (if k = 0 then lkp L k else upd (lkp L k) (nth L k).toNat (nth L (k - 1))) = _; rw [if_neg (by omega), nth_some HR.out.2.2, Int.toNat_natCast]]
            exact this
          have fin1' : ¬ 0 < k → CacheAt wr w.heap.size (w.heap.size + 1) { placeC V s L k with prev := lkp L (k + 1) } := fun h => by
            rw [show lkp L (k + 1) = lkp L k from if_pos (by omega)]; exact HR.out.1
          have fin2 : ∀ W, CacheAt W w.heap.size (w.heap.size + 1) { placeC V s L k with prev := lkp L (k + 1) } → k + 1 < L.length → CacheAt (W.setCell ⟨w.heap.size + 1, x * 4 + 3, none⟩ (.int .i64 (nth L (k + 1)))) w.heap.size (w.heap.size + 1) (placeC V s L (k + 1)) := fun W hW h => by
            have := hW.setNext (show 0 < s by omega) x (nth L (k + 1))
            unfold placeC
            rw [show lkx (fx V) L (k + 1) = upd (lkx (fx V) L k) x (nth L (k + 1)) by show (if k + 1 < L.length then upd (lkx (fx V) L k) (nth L k).toNat (nth L (k + 1)) else _) = _; rw [if_pos h, nth_some HR.out.2.2, Int.toNat_natCast]]
            exact this
          have fin2' : ∀ W, CacheAt W w.heap.size (w.heap.size + 1) { placeC V s L k with prev := lkp L (k + 1) } → ¬ k + 1 < L.length → CacheAt W w.heap.size (w.heap.size + 1) (placeC V s L (k + 1)) := fun W hW h => by
            unfold placeC
            rw [show lkx (fx V) L (k + 1) = lkx (fx V) L k from if_neg h]
            exact hW
          have FIN : Hid _ := And.intro fin1 (And.intro fin1' (And.intro fin2 fin2'))
          have gp : 0 < k → wr.cell? ⟨b', off' + (k - 1), none⟩ = some (.int .i64 (nth L (k - 1))) := fun h => F1.cell (k - 1) (by omega)
          have gx : k + 1 < L.length → wr.cell? ⟨b', off' + (k + 1), none⟩ = some (.int .i64 (nth L (k + 1))) := fun h => F1.cell (k + 1) (by omega)
          clear hC hK R x2 x3 q0 F1 fin1 fin1' fin2 fin2' hx
          generalize nth L (k + 1) = X at *
          by_cases h1 : 0 < k
          · have h1' : (0 : Int) < (k : Int) := by omega
            have gp1 := gp h1
            generalize nth L (k - 1) = P at *
            obtain ⟨p, rfl⟩ : ∃ p, k = p + 1 := ⟨k - 1, by omega⟩
            rw [show p + 1 - 1 = p from rfl] at gp1
            have hpl : (p : Int) < (L.length : Int) := by omega
            by_cases h2 : p + 1 + 1 < L.length
            · have h2' : (p : Int) + 1 + 1 < (L.length : Int) := by omega
              have gx1 := gx h2
              clear gp gx
              go_wp2
              go_region
              go_wp2
              go_region
              go_wp2
              go_roundw
              case rel => exact ⟨p + 1 + 1, by omega, by go_num, (FIN.out.2.2.1 _ (FIN.out.1 h1) h2).drew.drew, (((HR.out.2.1.setCell _ _ (.inr (Nat.le_succ _))).setCell _ _ (.inr (Nat.le_succ _)))).drew.drew⟩
              case measure => simp [intOf]; omega
            · have h2' : ¬ (p : Int) + 1 + 1 < (L.length : Int) := by omega
              clear gp gx
              go_wp2
              go_region
              go_wp2
              go_roundw
              case rel => exact ⟨p + 1 + 1, by omega, by go_num, (FIN.out.2.2.2 _ (FIN.out.1 h1) h2).drew, (HR.out.2.1.setCell _ _ (.inr (Nat.le_succ _))).drew⟩
              case measure => simp [intOf]; omega
          · have h1' : ¬ (0 : Int) < (k : Int) := by omega
            by_cases h2 : k + 1 < L.length
            · have h2' : (k : Int) + 1 < (L.length : Int) := by omega
              have gx1 := gx h2
              clear gp gx
              go_wp2
              go_region
              go_wp2
              go_roundw
              case rel => exact ⟨k + 1, by omega, by go_num, (FIN.out.2.2.1 _ (FIN.out.2.1 h1) h2).drew, (HR.out.2.1.setCell _ _ (.inr (Nat.le_succ _))).drew⟩
              case measure => simp [intOf]; omega
            · have h2' : ¬ (k : Int) + 1 < (L.length : Int) := by omega
              clear gp gx
              go_wp2
              go_roundw
              case rel => exact ⟨k + 1, by omega, by go_num, FIN.out.2.2.2 _ (FIN.out.2.1 h1) h2, HR.out.2.1⟩
              case measure => simp [intOf]; omega
        · have hkl' : ¬ (k : Int) < (L.length : Int) := by omega
          obtain rfl : k = L.length := by omega
          have q1 := hC.c1
          have q2 := hC.c2
          have q4 := hC.c4
          have fc := hC.fr
          have HR : Hid (CacheAt wr w.heap.size (w.heap.size + 1) (placeC V s L L.length) ∧ Keeps [] w wr) := ⟨hC, hK⟩
          by_cases hl : 0 < L.length
          · have F1 := HF.out.keeps hK (by simp)
            obtain rfl := F1.addr (by omega)
            have hbl := F1.lt (by omega)
            have hbw2 := hbw' (by omega)
            have hne2 : b' ≠ w.heap.size := by omega
            have hne3 : b' ≠ w.heap.size + 1 := by omega
            obtain ⟨q, hq⟩ : ∃ q, L.length = q + 1 := ⟨L.length - 1, by omega⟩
            have g0 := F1.cell 0 (by omega)
            have g1 := F1.cell q (by omega)
            rw [Nat.add_zero] at g0
            have fin : CacheAt (((wr.setCell ⟨w.heap.size, 1, none⟩ (.int .i64 (nth L 0))).setCell ⟨w.heap.size, 2, none⟩ (.int .i64 (nth L q))).setCell ⟨w.heap.size, 4, none⟩ (.int .i64 ((q : Int) + 1))) w.heap.size (w.heap.size + 1) (linkC V s L) := by
              have := ((HR.out.1.setHead (nth L 0)).setTail (nth L q)).setSize ((q : Int) + 1)
              have e : linkC V s L = ⟨s, fun i => (i : Int), V, lkp L L.length, lkx (fx V) L L.length, nth L 0, nth L q, lf V s, (q : Int) + 1, s⟩ := by
                unfold linkC prv; rw [if_neg (by omega), show L.length - 1 = q by omega]; congr 1; omega
              rw [e]; exact this
            have FIN : Hid _ := fin
            have hql : (q : Int) < (q : Int) + 1 := by omega
            have hq0 : (0 : Int) < (q : Int) + 1 := by omega
            have hq0' : (0 : Int) < ((q + 1 : Nat) : Int) := by omega
            rw [hq]
            rw [hq] at hll'
            have HH : Hid _ := HR.out.2
            clear hC hK F1 fin HR hl hq hkl hkl' hk
            go_wp2
            go_ret
            exact ⟨w.heap.size, w.heap.size + 1, rfl, FIN.out, Nat.le_refl _, Nat.le_succ _, ((HH.out.setCell _ _ (.inr (Nat.le_refl _))).setCell _ _ (.inr (Nat.le_refl _))).setCell _ _ (.inr (Nat.le_refl _))⟩
          · obtain rfl : L = [] := List.length_eq_zero_iff.1 (by omega)
            have fin : CacheAt (wr.setCell ⟨w.heap.size, 4, none⟩ (.int .i64 0)) w.heap.size (w.heap.size + 1) (linkC V s []) := HR.out.1.setSize 0
            have FIN : Hid _ := fin
            have HH : Hid _ := HR.out.2
            clear hC hK fin HR hl hkl hkl' hk
            go_wp2
            go_ret
            exact ⟨w.heap.size, w.heap.size + 1, rfl, FIN.out, Nat.le_refl _, Nat.le_succ _, HH.out.setCell _ _ (.inr (Nat.le_refl _))⟩
end Go.Proofs.Ymbrdv
