/- The cache that bchain lays. -/
import Derived.Test.YmbrdvLists
import Derived.Deep.DeepCutAuto
namespace Go.Proofs.Ymbrdv
open Go.RowKit

/-- the cache whose list is 0, 1, .., n - 1 and whose free list is n, .., n + m - 1 -/
def chainC (n m : Nat) (V : Nat → Int) : Cs :=
  ⟨n + m, fun i => if i < n then (i : Int) else 0, fun i => if i < n then V i else 0, fun i => if i < n then (i : Int) - 1 else -1,
   fun i => if i < n then (if i + 1 = n then -1 else (i : Int) + 1) else (if i + 1 = n + m then -1 else (i : Int) + 1), 0, (n : Int) - 1, if 0 < m then (n : Int) else -1, n, (n : Int) + m⟩
theorem nth_range (n k : Nat) : nth (List.range n) k = if k < n then (k : Int) else -1 := by
  by_cases h : k < n
  · rw [if_pos h, nth_lt (by simpa using h)]; simp
  · rw [if_neg h, nth_ge (by simpa using h)]
theorem get_range {n k x : Nat} (h : (List.range n)[k]? = some x) : k < n ∧ x = k := by
  obtain ⟨h1, h2⟩ := List.getElem?_eq_some_iff.1 h
  simp at h1 h2
  exact ⟨h1, h2.symm⟩
theorem chainC_ch (n m : Nat) (hn : 0 < n) (V : Nat → Int) : Ch (chainC n m V) (List.range n) := by
  refine ⟨List.nodup_range, fun x hx => Nat.lt_of_lt_of_le (show x < n by simpa using hx) (Nat.le_add_right n m), ?_, ?_, ?_, ?_, by simp [chainC]⟩
  · rw [nth_range, if_pos hn]; rfl
  · unfold prv; rw [List.length_range, if_neg (by omega), nth_range, if_pos (by omega)]; show (n : Int) - 1 = _; omega
  · intro k x hx
    obtain ⟨h1, rfl⟩ := get_range hx
    rw [nth_range]
    show (if x < n then (if x + 1 = n then (-1 : Int) else (x : Int) + 1) else _) = _
    rw [if_pos h1]
    by_cases e : x + 1 = n
    · rw [if_pos e, if_neg (by omega)]
    · rw [if_neg e, if_pos (by omega)]; omega
  · intro k x hx
    obtain ⟨h1, rfl⟩ := get_range hx
    unfold prv
    show (if x < n then (x : Int) - 1 else -1) = _
    rw [if_pos h1]
    by_cases e : x = 0
    · rw [if_pos e, e]; rfl
    · rw [if_neg e, nth_range, if_pos (by omega)]; omega
theorem map_nodup {α : Type} {n : Nat} {f : Nat → α} (h : ∀ i j, i < n → j < n → f i = f j → i = j) : ((List.range n).map f).Nodup := by
  refine List.pairwise_iff_getElem.2 fun i j hi hj hij e => ?_
  simp at hi hj e
  have := h i j hi hj e
  omega
/-- the free slots -/
def spares (n m : Nat) : List Nat := (List.range m).map (n + ·)
theorem nth_spares (n m k : Nat) : nth (spares n m) k = if k < m then (n : Int) + k else -1 := by
  by_cases h : k < m
  · rw [if_pos h, nth_lt (by simpa [spares] using h)]; simp [spares]
  · rw [if_neg h, nth_ge (by simpa [spares] using h)]
theorem chainC_inv (n m : Nat) (hn : 0 < n) (V : Nat → Int) : Inv (chainC n m V) (List.range n) (spares n m) := by
  refine ⟨chainC_ch n m hn V, ?_, ?_, ?_, ?_, by simp [chainC, spares], ?_, ?_⟩
  · refine List.nodup_append.2 ⟨List.nodup_range, ?_, ?_⟩
    · unfold spares
      exact map_nodup (fun i j _ _ e => by omega)
    · intro a ha b hb e
      have : a < n := by simpa using ha
      obtain ⟨j, _, rfl⟩ := List.mem_map.1 hb
      omega
  · intro x hx
    obtain ⟨j, hj, rfl⟩ := List.mem_map.1 hx
    have : j < m := by simpa using hj
    show n + j < n + m
    omega
  · rw [nth_spares]
    show (if 0 < m then (n : Int) else -1) = _
    by_cases h : 0 < m
    · rw [if_pos h, if_pos h]; omega
    · rw [if_neg h, if_neg h]
  · intro k x hx
    obtain ⟨h1, h2⟩ := List.getElem?_eq_some_iff.1 hx
    simp [spares] at h1 h2
    subst h2
    rw [nth_spares]
    show (if n + k < n then _ else (if n + k + 1 = n + m then (-1 : Int) else ((n + k : Nat) : Int) + 1)) = _
    rw [if_neg (by omega)]
    by_cases e : n + k + 1 = n + m
    · rw [if_pos e, if_neg (by omega)]
    · rw [if_neg e, if_pos (by omega)]; omega
  · have : (List.range n).map (chainC n m V).key = (List.range n).map (fun i : Nat => (i : Int)) := List.map_congr_left fun x hx => by
      have hx' : x < n := by simpa using hx
      show (if x < n then (x : Int) else 0) = _
      rw [if_pos hx']
    rw [this]
    exact map_nodup (fun i j _ _ e => by omega)
  · show ((n + m : Nat) : Int) ≤ (n : Int) + m; omega

/-- what bchain answers -/
def ChainPost (n m : Nat) (V : Nat → Int) (w : World) (e : Ending) (w' : World) : Prop := ∃ cb nb, e = .returned (.pointer (some ⟨cb, 0, none⟩)) ∧ CacheAt w' cb nb (chainC n m V) ∧ w.heap.size ≤ cb ∧ w.heap.size ≤ nb ∧ Keeps [] w w'

set_option maxRecDepth 100000 in
set_option maxHeartbeats 2000000 in
theorem bchain_at (w : World) (b off : Nat) (a : Option Addr) (n cap m : Nat) (V : Nat → Int) (hE : InRow w b off a n 1 (fun j => .int .i64 (V j))) (hn : n ≤ 1024) (hm : m ≤ 1000) :
    Calls Ydvm.prog 21 #[.slice a n cap, .int .i64 (m : Int)] w (ChainPost n m V w) := by
  have hn' : (n : Int) ≤ 1024 := by omega
  have hm' : (m : Int) ≤ 1000 := by omega
  have hmk : ∀ W, (Instr.makeSlice 30 (.int .i64 ((n : Int) + (m : Int))) (.int .i64 ((n : Int) + (m : Int)))).run Ydvm.prog W = _ := make_nodes (n + m) (by omega)
  obtain ⟨C, hC⟩ : ∃ C, C = chainC n m V := ⟨_, rfl⟩
  have hk1 : ∀ i, i < n → C.key i = i ∧ C.val i = V i ∧ C.prev i = (i : Int) - 1 ∧ C.next i = if i + 1 = n then -1 else (i : Int) + 1 := fun i hi => by
    subst hC
    exact ⟨if_pos hi, if_pos hi, if_pos hi, if_pos hi⟩
  have hk2 : ∀ i, n ≤ i → C.key i = 0 ∧ C.val i = 0 ∧ C.prev i = -1 ∧ C.next i = if i + 1 = n + m then -1 else (i : Int) + 1 := fun i hi => by
    subst hC
    exact ⟨if_neg (by omega), if_neg (by omega), if_neg (by omega), if_neg (by omega)⟩
  have HC : Hid (C = chainC n m V) := hC
  have HE : Hid (InRow w b off a n 1 (fun j => .int .i64 (V j))) := hE
  have HK1 : Hid _ := hk1
  have HK2 : Hid _ := hk2
  clear hE hC hk1 hk2
  go_enter Ydvm.func21, Ydvm.ntmps21
  go_wp2
  go_loopw [7] (fun i wr => ∃ k : Nat, k ≤ n ∧ i = .int .i64 k ∧ RowAt wr w.heap.size 38 4 (n + m) (n + m) (ncell (part k C.key) (part k C.val) (part k C.prev) (part k C.next)) ∧ Keeps [] w wr) (fun i _ => n - (intOf i).toNat)
  case atStart => exact ⟨0, by omega, rfl, RowAt.madeNodes w 38 (n + m) _ _ _ _ (by unfold maxLen; omega), (Keeps.refl _ _).alloc _⟩
  case round =>
    obtain ⟨k, hk, rfl, hR, hK⟩ := hrel
    by_cases hlt : k < n
    · have hlt' : (k : Int) < (n : Int) := by omega
      have hlt2 : (k : Int) < (n : Int) + (m : Int) := by omega
      have E1 := HE.out.keeps hK (by simp)
      obtain rfl := E1.addr (by omega)
      have g0 := E1.cell k (by omega)
      have f0 := hR.cell (k * 4) (by omega)
      have f1 := hR.cell (k * 4 + 1) (by omega)
      have f2 := hR.cell (k * 4 + 2) (by omega)
      have f3 := hR.cell (k * 4 + 3) (by omega)
      have fz := hR.frozen
      have HR : Hid (RowAt wr w.heap.size 38 4 (n + m) (n + m) (ncell (part k C.key) (part k C.val) (part k C.prev) (part k C.next)) ∧ Keeps [] w wr) := ⟨hR, hK⟩
      clear hR hK E1
      by_cases he : k + 1 = n
      · have hb : ((k : Int) + 1 == (n : Int)) = true := beq_iff_eq.2 (by omega)
        have HX : Hid (k + 1 = n) := he
        clear he
        go_wp2
        go_roundw
        case rel =>
          obtain ⟨e0, e1, e2, e3⟩ := HK1.out k hlt
          rw [if_pos HX.out] at e3
          exact ⟨k + 1, by omega, by go_num, HR.out.1.stepNode _ _ _ _ e0.symm e1.symm e2.symm e3.symm, (((HR.out.2.setCell _ _ (.inr (Nat.le_refl _))).setCell _ _ (.inr (Nat.le_refl _))).setCell _ _ (.inr (Nat.le_refl _))).setCell _ _ (.inr (Nat.le_refl _))⟩
        case measure => simp [intOf]; omega
      · have hb : ((k : Int) + 1 == (n : Int)) = false := beq_eq_false_iff_ne.2 (by omega)
        have HX : Hid (¬ k + 1 = n) := he
        clear he
        go_wp2
        go_roundw
        case rel =>
          obtain ⟨e0, e1, e2, e3⟩ := HK1.out k hlt
          rw [if_neg HX.out] at e3
          exact ⟨k + 1, by omega, by go_num, HR.out.1.stepNode _ _ _ _ e0.symm e1.symm e2.symm e3.symm, (((HR.out.2.setCell _ _ (.inr (Nat.le_refl _))).setCell _ _ (.inr (Nat.le_refl _))).setCell _ _ (.inr (Nat.le_refl _))).setCell _ _ (.inr (Nat.le_refl _))⟩
        case measure => simp [intOf]; omega
    · have hlt' : ¬ (k : Int) < (n : Int) := by omega
      obtain rfl : k = n := by omega
      clear hmk
      go_wp2
      generalize wr = wo0 at *
      go_loopw [9] (fun i wr => ∃ j : Nat, k ≤ j ∧ j ≤ k + m ∧ i = .int .i64 j ∧ RowAt wr w.heap.size 38 4 (k + m) (k + m) (ncell (part j C.key) (part j C.val) (part j C.prev) (part j C.next)) ∧ Keeps [] w wr) (fun i _ => k + m - (intOf i).toNat)
      case atStart => exact ⟨k, Nat.le_refl _, by omega, rfl, hR, hK⟩
      case round =>
        clear hR hK
        obtain ⟨j, hj0, hj, rfl, hR, hK⟩ := hrel
        by_cases hjl : j < k + m
        · have hjl' : (j : Int) < (k : Int) + (m : Int) := by omega
          have f0 := hR.cell (j * 4) (by omega)
          have f1 := hR.cell (j * 4 + 1) (by omega)
          have f2 := hR.cell (j * 4 + 2) (by omega)
          have f3 := hR.cell (j * 4 + 3) (by omega)
          have fz := hR.frozen
          have HR : Hid (RowAt wr w.heap.size 38 4 (k + m) (k + m) (ncell (part j C.key) (part j C.val) (part j C.prev) (part j C.next)) ∧ Keeps [] w wr) := ⟨hR, hK⟩
          clear hR hK
          by_cases he : j + 1 = k + m
          · have hb : ((j : Int) + 1 == (k : Int) + (m : Int)) = true := beq_iff_eq.2 (by omega)
            have HX : Hid (j + 1 = k + m) := he
            clear he
            go_wp2
            go_roundw
            case rel =>
              obtain ⟨e0, e1, e2, e3⟩ := HK2.out j hj0
              rw [if_pos HX.out] at e3
              exact ⟨j + 1, by omega, by omega, by go_num, HR.out.1.stepNode _ _ _ _ e0.symm e1.symm e2.symm e3.symm, (((HR.out.2.setCell _ _ (.inr (Nat.le_refl _))).setCell _ _ (.inr (Nat.le_refl _))).setCell _ _ (.inr (Nat.le_refl _))).setCell _ _ (.inr (Nat.le_refl _))⟩
            case measure => simp [intOf]; omega
          · have hb : ((j : Int) + 1 == (k : Int) + (m : Int)) = false := beq_eq_false_iff_ne.2 (by omega)
            have HX : Hid (¬ j + 1 = k + m) := he
            clear he
            go_wp2
            go_roundw
            case rel =>
              obtain ⟨e0, e1, e2, e3⟩ := HK2.out j hj0
              rw [if_neg HX.out] at e3
              exact ⟨j + 1, by omega, by omega, by go_num, HR.out.1.stepNode _ _ _ _ e0.symm e1.symm e2.symm e3.symm, (((HR.out.2.setCell _ _ (.inr (Nat.le_refl _))).setCell _ _ (.inr (Nat.le_refl _))).setCell _ _ (.inr (Nat.le_refl _))).setCell _ _ (.inr (Nat.le_refl _))⟩
            case measure => simp [intOf]; omega
        · have hjl' : ¬ (j : Int) < (k : Int) + (m : Int) := by omega
          have hR2 := hR.fullNode (m := j) (by omega)
          have s1 := hK.size
          have fin : ∀ fr : Int, fr = C.free → CacheAt (wr.alloc (.cells #[.slice (some ⟨w.heap.size, 0, none⟩) (k + m) (k + m), .int .i64 0, .int .i64 ((k : Int) - 1), .int .i64 fr, .int .i64 (k : Int), .int .i64 ((k : Int) + (m : Int))] 32)) wr.heap.size w.heap.size (chainC k m V) ∧ Keeps [] w (wr.alloc (.cells #[.slice (some ⟨w.heap.size, 0, none⟩) (k + m) (k + m), .int .i64 0, .int .i64 ((k : Int) - 1), .int .i64 fr, .int .i64 (k : Int), .int .i64 ((k : Int) + (m : Int))] 32)) := fun fr hfr => by
            have H := CacheAt.boxed 0 ((k : Int) - 1) fr k ((k : Int) + m) hR2
            subst hfr
            rw [HC.out] at H
            rw [HC.out]
            exact ⟨H, hK.alloc _⟩
          have FIN : Hid _ := fin
          clear fin hR hR2 hK
          by_cases h0 : 0 < m
          · have h0' : (0 : Int) < (m : Int) := by omega
            go_wp2
            go_ret
            have F := FIN.out k (by rw [HC.out]; exact (if_pos h0).symm)
            exact ⟨_, _, rfl, F.1, s1, Nat.le_refl _, F.2⟩
          · have h0' : ¬ (0 : Int) < (m : Int) := by omega
            go_wp2
            go_ret
            have F := FIN.out (-1) (by rw [HC.out]; exact (if_neg h0).symm)
            exact ⟨_, _, rfl, F.1, s1, Nat.le_refl _, F.2⟩
end Go.Proofs.Ymbrdv
