/- The law FMove: her walk. -/
import Derived.Test.YmbrdwScript
import Derived.BigQuiet
namespace Go.Proofs.Ymbrdw
open Go.RowKit

theorem rem_natM (a : Int) (n : Nat) (hn : 0 < n) : ∃ i : Nat, a % (n : Int) = i ∧ i < n := ⟨(a % (n : Int)).toNat, by have := Int.emod_nonneg a (show (n : Int) ≠ 0 by omega); omega, by have := Int.emod_lt_of_pos a (show (0 : Int) < n by omega); have := Int.emod_nonneg a (show (n : Int) ≠ 0 by omega); omega⟩
/-- the value of the j-th slot -/
def vgivM (len : Nat) (z : Nat → Int) (e : Int) : Nat → Int := fun i => if i < len then z i else e
theorem vgivM_lt {len i : Nat} (z : Nat → Int) (e : Int) (h : i < len) : vgivM len z e i = z i := by simp [vgivM, h]
theorem vgivM_ge {len i : Nat} (z : Nat → Int) (e : Int) (h : ¬ i < len) : vgivM len z e i = e := by simp [vgivM, h]

/-- the cache whose list is 0, 1, .., n - 1 -/
def chain0 (n : Nat) (V : Nat → Int) : Cs := ⟨n, fun i => (i : Int), V, fun i => (i : Int) - 1, fun i => if i + 1 = n then -1 else (i : Int) + 1, 0, (n : Int) - 1, -1, n, n⟩
theorem nth_range (n k : Nat) : nth (List.range n) k = if k < n then (k : Int) else -1 := by
  by_cases h : k < n
  · rw [if_pos h, nth_lt (by simpa using h)]; simp
  · rw [if_neg h, nth_ge (by simpa using h)]
theorem chain0_ch (n : Nat) (hn : 0 < n) (V : Nat → Int) : Ch (chain0 n V) (List.range n) := by
  refine ⟨List.nodup_range, fun x hx => by show x < n; simpa using hx, ?_, ?_, ?_, ?_, by simp [chain0]⟩
  · rw [nth_range, if_pos hn]; rfl
  · unfold prv; rw [List.length_range, if_neg (by omega), nth_range, if_pos (by omega)]; show (n : Int) - 1 = _; omega
  · intro k x hx
    obtain ⟨h1, h2⟩ := List.getElem?_eq_some_iff.1 hx
    simp at h1 h2
    subst h2
    rw [nth_range]
    show (if k + 1 = n then (-1 : Int) else (k : Int) + 1) = _
    by_cases e : k + 1 = n
    · rw [if_pos e, if_neg (by omega)]
    · rw [if_neg e, if_pos (by omega)]; omega
  · intro k x hx
    obtain ⟨h1, h2⟩ := List.getElem?_eq_some_iff.1 hx
    simp at h1 h2
    subst h2
    unfold prv
    show (k : Int) - 1 = _
    by_cases e : k = 0
    · rw [if_pos e, e]; rfl
    · rw [if_neg e, nth_range, if_pos (by omega)]; omega

/-- where slot i has come to the head, what stands at place j -/
def movS (i j : Nat) : Nat := if j = 0 then i else if j ≤ i then j - 1 else j
theorem movS_get (n i j : Nat) (_hi : i < n) (hj : j < n) : (i :: (List.range n).eraseIdx i)[j]? = some (movS i j) := by
  unfold movS
  cases j with
  | zero => simp
  | succ j =>
    rw [List.getElem?_cons_succ, List.getElem?_eraseIdx]
    by_cases h : j < i
    · rw [if_pos h, if_neg (show ¬ j + 1 = 0 by omega), if_pos (show j + 1 ≤ i by omega), List.getElem?_range (by omega)]; rfl
    · rw [if_neg h, if_neg (show ¬ j + 1 = 0 by omega), if_neg (show ¬ j + 1 ≤ i by omega), List.getElem?_range (by omega)]

/-- the cache behind unlink and pushFront of slot i -/
def movC (n i : Nat) (V : Nat → Int) : Cs := ((chain0 n V).unlink i).pushFront i
theorem movC_ch (n i : Nat) (V : Nat → Int) (hi : i < n) (hn : n ≤ 100000) : Ch (movC n i V) (i :: (List.range n).eraseIdx i) := by
  have h0 := chain0_ch n (by omega) V
  have hk : (List.range n)[i]? = some i := by simp [hi]
  refine (h0.unlink hk (by simp; omega)).pushFront (i := i) hi (eraseIdx_not_mem h0.nd hk) ?_
  rw [List.length_eraseIdx_of_lt (by simpa using hi)]; simp; omega
theorem movC_len (n i : Nat) (hi : i < n) : (i :: (List.range n).eraseIdx i).length = n := by
  rw [List.length_cons, List.length_eraseIdx_of_lt (by simpa using hi)]; simp; omega
theorem movC_slot (n i : Nat) (V : Nat → Int) (hi : i < n) (hn : n ≤ 100000) (j : Nat) (hj : j < n) : (movC n i V).slot j = movS i j := by
  have h := movC_ch n i V hi hn
  rw [h.slot j (by rw [movC_len n i hi]; omega), nth_some (movS_get n i j hi hj)]
theorem movC_size (n i : Nat) (V : Nat → Int) (hi : i < n) (hn : n ≤ 100000) : (movC n i V).size = n := by
  have h := (movC_ch n i V hi hn).size
  rw [movC_len n i hi] at h; exact h
theorem movC_ek (n i : Nat) (V : Nat → Int) (hi : i < n) (hn : n ≤ 100000) (j : Nat) (hj : j < n) : (movC n i V).ek j = movS i j ∧ (movC n i V).ev j = V (movS i j) := by
  unfold Cs.ek Cs.ev
  rw [movC_slot n i V hi hn j hj, Int.toNat_natCast]
  unfold movC
  rw [pushFront_key, pushFront_val]
  exact ⟨rfl, rfl⟩

theorem movC_out (n i : Nat) (V : Nat → Int) (hi : i < n) (hn : n ≤ 100000) : (movC n i V).evicted = ((movS i (n - 1) : Int), V (movS i (n - 1))) ∧ (movC n i V).evict.size = (n : Int) - 1 := by
  have h := movC_ch n i V hi hn
  have hl := movC_len n i hi
  have hs := movC_size n i V hi hn
  have hg := movS_get n i (n - 1) hi (by omega)
  have ht : (movC n i V).tail = (movS i (n - 1) : Int) := by
    rw [h.tail, hl]; unfold prv; rw [if_neg (by omega), nth_some hg]
  have hd := (h.drop hg (by rw [hl]; omega)).size
  rw [List.length_eraseIdx_of_lt (by rw [hl]; omega), hl] at hd
  unfold Cs.evicted Cs.evict
  rw [if_neg (by omega), if_neg (by omega), ht, Int.toNat_natCast]
  refine ⟨?_, by rw [hd]; omega⟩
  unfold movC
  rw [pushFront_key, pushFront_val]
  rfl

set_option maxRecDepth 100000 in
set_option maxHeartbeats 4000000 in
theorem walk_FMove (w : World) (a0 : Option Addr) (len cap : Nat) (z : Nat → Int) (hz : InInts .i64 w a0 len z) (a1 : Int) (_w1 : (Lit.int .i64 a1).wf = true) (a2 : Int) (w2 : (Lit.int .u64 a2).wf = true) :
    Calls Ydwm.prog 8 #[.slice a0 len cap, .int .i64 a1, .int .u64 a2] w fun e w' => e = .returned (.bool true) ∧ Below w.heap.size w w' := by
  by_cases hbig : 1024 < len
  · have hbig' : (1024 : Int) < (len : Int) := by omega
    go_enter Ydwm.func8, Ydwm.ntmps8
    go_wp2
    go_ret
    exact ⟨rfl, Below.refl _ _⟩
  have hlen : (len : Int) ≤ 1024 := by omega
  obtain ⟨⟨b, off, hE⟩, _⟩ := hz
  obtain ⟨h20, h21⟩ := wf_u64 w2
  obtain ⟨i, hi0, hi1⟩ := rem_natM a2 (len + 1) (by omega)
  have hq1 : a2 % ((len : Int) + 1) = (i : Int) := hi0
  have hi2 : (i : Int) < (len : Int) + 1 := by omega
  have hmk : ∀ W, (Instr.makeSlice 31 (.int .i64 ((len : Int) + 1)) (.int .i64 ((len : Int) + 1))).run Ydwm.prog W = .ok (.slice (some ⟨W.heap.size, 0, none⟩) (len + 1) (len + 1)) (W.alloc (.cells (madeCells #[.int .i64 0, .int .i64 0, .int .i64 0, .int .i64 0] ((len + 1) * 4)) 30)) := fun W => by
    have := make_nodes (len + 1) (by omega) W; simpa using this
  clear w2 hi0
  go_enter Ydwm.func8, Ydwm.ntmps8
  go_wp2
  go_loopw [9] (fun j wr => ∃ k : Nat, k ≤ len + 1 ∧ j = .int .i64 k ∧ RowAt wr w.heap.size 30 4 (len + 1) (len + 1) (ncell (part k (chain0 (len + 1) (vgivM len z a1)).key) (part k (vgivM len z a1)) (part k (chain0 (len + 1) (vgivM len z a1)).prev) (part k (chain0 (len + 1) (vgivM len z a1)).next)) ∧ Below w.heap.size w wr) (fun j _ => len + 1 - (intOf j).toNat)
  case atStart => exact ⟨0, by omega, rfl, RowAt.madeNodes w 30 (len + 1) _ _ _ _ (by unfold maxLen; omega), (Below.refl _ _).alloc (Nat.le_refl _) _⟩
  case round =>
    obtain ⟨k, hk, rfl, hR, hbel⟩ := hrel
    by_cases hk2 : k < len + 1
    · have hk3 : (k : Int) < (len : Int) + 1 := by omega
      have f0 := hR.cell (k * 4) (by omega)
      have f1 := hR.cell (k * 4 + 1) (by omega)
      have f2 := hR.cell (k * 4 + 2) (by omega)
      have f3 := hR.cell (k * 4 + 3) (by omega)
      have fz := hR.frozen
      have HR : Hid (RowAt wr w.heap.size 30 4 (len + 1) (len + 1) (ncell (part k (chain0 (len + 1) (vgivM len z a1)).key) (part k (vgivM len z a1)) (part k (chain0 (len + 1) (vgivM len z a1)).prev) (part k (chain0 (len + 1) (vgivM len z a1)).next)) ∧ Below w.heap.size w wr) := ⟨hR, hbel⟩
      have fin : ∀ x : Int, x = vgivM len z a1 k → ∀ y : Int, y = (if k + 1 = len + 1 then -1 else (k : Int) + 1) → ∀ W, W = ((((wr.setCell ⟨w.heap.size, k * 4, none⟩ (.int .i64 k)).setCell ⟨w.heap.size, k * 4 + 1, none⟩ (.int .i64 x)).setCell ⟨w.heap.size, k * 4 + 2, none⟩ (.int .i64 ((k : Int) - 1))).setCell ⟨w.heap.size, k * 4 + 3, none⟩ (.int .i64 y)) → RowAt W w.heap.size 30 4 (len + 1) (len + 1) (ncell (part (k + 1) (chain0 (len + 1) (vgivM len z a1)).key) (part (k + 1) (vgivM len z a1)) (part (k + 1) (chain0 (len + 1) (vgivM len z a1)).prev) (part (k + 1) (chain0 (len + 1) (vgivM len z a1)).next)) ∧ Below w.heap.size w W :=
        fun x hx y hy W hW => by
          subst hW
          exact ⟨HR.out.1.stepNode _ _ _ _ rfl hx rfl hy, (((HR.out.2.setCell (Nat.le_refl _) _).setCell (Nat.le_refl _) _).setCell (Nat.le_refl _) _).setCell (Nat.le_refl _) _⟩
      have FIN : Hid (∀ x : Int, x = vgivM len z a1 k → ∀ y : Int, y = (if k + 1 = len + 1 then -1 else (k : Int) + 1) → ∀ W, W = ((((wr.setCell ⟨w.heap.size, k * 4, none⟩ (.int .i64 k)).setCell ⟨w.heap.size, k * 4 + 1, none⟩ (.int .i64 x)).setCell ⟨w.heap.size, k * 4 + 2, none⟩ (.int .i64 ((k : Int) - 1))).setCell ⟨w.heap.size, k * 4 + 3, none⟩ (.int .i64 y)) → RowAt W w.heap.size 30 4 (len + 1) (len + 1) (ncell (part (k + 1) (chain0 (len + 1) (vgivM len z a1)).key) (part (k + 1) (vgivM len z a1)) (part (k + 1) (chain0 (len + 1) (vgivM len z a1)).prev) (part (k + 1) (chain0 (len + 1) (vgivM len z a1)).next)) ∧ Below w.heap.size w W) := fin
      clear fin
      by_cases hlt : k < len
      · have hlt' : (k : Int) < (len : Int) := by omega
        have hne : ((k : Int) + 1 == (len : Int) + 1) = false := beq_eq_false_iff_ne.2 (by omega)
        obtain rfl := hE.addr (by omega)
        have hblt := hE.lt (by omega)
        have g0 := (hE.below hbel (fun _ => hblt)).cell k (by omega)
        clear hR hbel
        go_wp2
        go_roundw
        case rel =>
          have F := FIN.out _ (vgivM_lt z a1 hlt).symm _ (if_neg (by omega)).symm _ rfl
          exact ⟨k + 1, by omega, by go_num, F.1, F.2⟩
        case measure => simp [intOf]; omega
      · have hlt' : ¬ (k : Int) < (len : Int) := by omega
        have hne : ((k : Int) + 1 == (len : Int) + 1) = true := beq_iff_eq.2 (by omega)
        clear hR hbel
        go_wp2
        go_roundw
        case rel =>
          have F := FIN.out _ (vgivM_ge z a1 hlt).symm _ (if_pos (by omega)).symm _ rfl
          exact ⟨k + 1, by omega, by go_num, F.1, F.2⟩
        case measure => simp [intOf]; omega
    · have hk3 : ¬ (k : Int) < (len : Int) + 1 := by omega
      have hR2 := hR.fullNode (m := k) (by omega)
      have hrl := hR.lt
      have hsz := hbel.size
      have H := CacheAt.boxed (0 : Int) (len : Int) (-1) ((len : Int) + 1) ((len : Int) + 1) hR2
      have ec : (⟨len + 1, (chain0 (len + 1) (vgivM len z a1)).key, vgivM len z a1, (chain0 (len + 1) (vgivM len z a1)).prev, (chain0 (len + 1) (vgivM len z a1)).next, 0, (len : Int), -1, (len : Int) + 1, (len : Int) + 1⟩ : Cs) = chain0 (len + 1) (vgivM len z a1) := by
        unfold chain0; simp
      rw [ec] at H
      have hch := chain0_ch (len + 1) (by omega) (vgivM len z a1)
      have hgi : (List.range (len + 1))[i]? = some i := by simp [hi1]
      have HB : Hid (Below w.heap.size w wr) := hbel
      clear hR hR2 hbel ec
      go_wp2_with fail
      refine (unlink_at wr.heap.size w.heap.size i _ _ H hi1 (hch.prev_ok hgi) (hch.next_ok hgi)).mono ?_
      rintro e w3 ⟨rfl, H3, K3, S3⟩
      go_wp2_with fail
      refine (pushFront_at wr.heap.size w.heap.size i _ _ H3 hi1 (hch.unlink hgi (by simp; omega)).head_ok).mono ?_
      rintro e w4 ⟨rfl, H4, K4, S4⟩
      have H5 : CacheAt w4 wr.heap.size w.heap.size (movC (len + 1) i (vgivM len z a1)) := H4
      have s5 : w4.heap.size = wr.heap.size + 1 := by rw [S4, S3]; simp
      have BW : Below w.heap.size w w4 := ((HB.out.alloc hsz _).trans (K3.below (by simp; omega) (by simp; omega))).trans (K4.below (by rw [S3]; simp; omega) (by simp; omega))
      have hsl := (movC_ch (len + 1) i (vgivM len z a1) hi1 (by omega)).slots
      have hss := movC_size (len + 1) i (vgivM len z a1) hi1 (by omega)
      have hcm := movC_ch (len + 1) i (vgivM len z a1) hi1 (by omega)
      have hek := movC_ek (len + 1) i (vgivM len z a1) hi1 (by omega)
      have hct := (movC_len (len + 1) i hi1)
      have hout := movC_out (len + 1) i (vgivM len z a1) hi1 (by omega)
      generalize movC (len + 1) i (vgivM len z a1) = c at *
      have ORD := Order_at wr.heap.size w.heap.size c w4 H5 (by omega) (by omega) hsl
      rw [hss] at ORD
      simp only [Int.toNat_natCast] at ORD
      clear H H3 H4 K3 K4 S3 S4 hch hgi hsl
      generalize wr.heap.size = cb at *
      go_wp2_with fail
      refine ORD.mono ?_
      rintro e w5 ⟨b5, ec5, rfl, R5, hb5, K5⟩
      clear ORD
      have R6 : RowAt w5 b5 28 2 (len + 1) ec5 (ecell (fun j => (movS i j : Int)) (fun j => vgivM len z a1 (movS i j))) := R5.congr fun j hj => by unfold ecell; rw [(hek (j / 2) (by omega)).1, (hek (j / 2) (by omega)).2]
      have HQ : Hid (CacheAt w5 cb w.heap.size c ∧ Below w.heap.size w w5 ∧ Ch c (i :: (List.range (len + 1)).eraseIdx i) ∧ (∀ j, j < len + 1 → c.ek j = movS i j ∧ c.ev j = vgivM len z a1 (movS i j)) ∧ c.size = ((len + 1 : Nat) : Int) ∧ (c.evicted = ((movS i (len + 1 - 1) : Int), vgivM len z a1 (movS i (len + 1 - 1))) ∧ c.evict.size = ((len + 1 : Nat) : Int) - 1)) := ⟨H5.keeps K5 (by simp) (by simp), BW.trans (K5.below (by omega) (by simp)), hcm, hek, hss, hout⟩
      have HR6 : Hid (RowAt w5 b5 28 2 (len + 1) ec5 (ecell (fun j => (movS i j : Int)) (fun j => vgivM len z a1 (movS i j)))) := R6
      have s6 := K5.size
      clear R5 R6 K5 H5 BW hcm hek hss hct hout
      go_wp2
      go_loopw [15] (fun j wq => ∃ m : Nat, m ≤ len + 1 ∧ j = .int .i64 m ∧ Keeps [] w5 wq) (fun j _ => len + 1 - (intOf j).toNat)
      case atStart => exact ⟨0, by omega, rfl, Keeps.refl _ _⟩
      case round =>
        obtain ⟨m, hm, rfl, Kq⟩ := hrel
        by_cases hml : m < len + 1
        · have hml' : (m : Int) < (len : Int) + 1 := by omega
          by_cases hA : m = 0
          ·
            subst hA
            have hS : movS i 0 = i := rfl
            obtain ⟨r0, r1⟩ := (HR6.out.keeps Kq (by simp)).ents 0 (by omega)
            rw [hS] at r0 r1
            simp only [Nat.zero_mul, Nat.zero_add] at r0 r1
            have HK : Hid (Keeps [] w5 wr) := Kq
            by_cases hlt : i < len
            · have hlt' : (i : Int) < (len : Int) := by omega
              obtain rfl := hE.addr (by omega)
              have hblt := hE.lt (by omega)
              have g0 := ((hE.below HQ.out.2.1 (fun _ => hblt)).keeps Kq (by simp)).cell i (by omega)
              rw [vgivM_lt z a1 hlt] at r1
              clear Kq hE hS
              go_wp2
              go_roundw
              case rel => exact ⟨0 + 1, by omega, by go_num, HK.out⟩
              case measure => simp [intOf]
            · have hlt' : ¬ (i : Int) < (len : Int) := by omega
              rw [vgivM_ge z a1 hlt] at r1
              clear Kq hS
              go_wp2
              go_roundw
              case rel => exact ⟨0 + 1, by omega, by go_num, HK.out⟩
              case measure => simp [intOf]
          · by_cases hB : m ≤ i
            ·
              obtain ⟨p, rfl⟩ : ∃ p, m = p + 1 := ⟨m - 1, by omega⟩
              have hm0 : ((p : Int) + 1 == 0) = false := beq_eq_false_iff_ne.2 (by omega)
              have hmi : (p : Int) + 1 ≤ (i : Int) := by omega
              have hS : movS i (p + 1) = p := by unfold movS; rw [if_neg (by omega), if_pos (by omega)]; rfl
              obtain ⟨r0, r1⟩ := (HR6.out.keeps Kq (by simp)).ents (p + 1) (by omega)
              rw [hS] at r0 r1
              have HK : Hid (Keeps [] w5 wr) := Kq
              by_cases hlt : p < len
              · have hlt' : (p : Int) < (len : Int) := by omega
                obtain rfl := hE.addr (by omega)
                have hblt := hE.lt (by omega)
                have g0 := ((hE.below HQ.out.2.1 (fun _ => hblt)).keeps Kq (by simp)).cell p (by omega)
                rw [vgivM_lt z a1 hlt] at r1
                clear Kq hE hS
                go_wp2
                go_roundw
                case rel => exact ⟨(p + 1) + 1, by omega, by go_num, HK.out⟩
                case measure => simp [intOf]; omega
              · have hlt' : ¬ (p : Int) < (len : Int) := by omega
                omega
            ·
              have hm0 : ((m : Int) == 0) = false := beq_eq_false_iff_ne.2 (by omega)
              have hmi : ¬ (m : Int) ≤ (i : Int) := by omega
              have hS : movS i m = m := by unfold movS; rw [if_neg (by omega), if_neg (by omega)]
              obtain ⟨r0, r1⟩ := (HR6.out.keeps Kq (by simp)).ents m (by omega)
              rw [hS] at r0 r1
              have HK : Hid (Keeps [] w5 wr) := Kq
              by_cases hlt : m < len
              · have hlt' : (m : Int) < (len : Int) := by omega
                obtain rfl := hE.addr (by omega)
                have hblt := hE.lt (by omega)
                have g0 := ((hE.below HQ.out.2.1 (fun _ => hblt)).keeps Kq (by simp)).cell m (by omega)
                rw [vgivM_lt z a1 hlt] at r1
                clear Kq hE hS
                go_wp2
                go_roundw
                case rel => exact ⟨m + 1, by omega, by go_num, HK.out⟩
                case measure => simp [intOf]; omega
              · have hlt' : ¬ (m : Int) < (len : Int) := by omega
                rw [vgivM_ge z a1 hlt] at r1
                clear Kq hS
                go_wp2
                go_roundw
                case rel => exact ⟨m + 1, by omega, by go_num, HK.out⟩
                case measure => simp [intOf]; omega
        · have hml' : ¬ (m : Int) < (len : Int) + 1 := by omega
          have HC := HQ.out.1.keeps Kq (by simp) (by simp)
          have EV := Evict_at cb w.heap.size c _ wr HC HQ.out.2.2.1
          rw [HQ.out.2.2.2.2.2.1, HQ.out.2.2.2.2.1, show (!decide (((len + 1 : Nat) : Int) = 0)) = true by simp; omega] at EV
          have B1 : Below w.heap.size w wr := HQ.out.2.1.trans (Kq.below (by have := HQ.out.2.1.size; omega) (by simp))
          have R7 := HR6.out.keeps Kq (by simp)
          have hl7 := R7.lt
          have hne1 : b5 ≠ cb := by omega
          have hne2 : b5 ≠ w.heap.size := by omega
          clear Kq HC
          go_wp2_with fail
          refine EV.mono ?_
          rintro e w7 ⟨rfl, H7, K7⟩
          clear EV
          have R8 := R7.keeps K7 (by simp; exact ⟨hne1, hne2⟩)
          obtain ⟨r0, r1⟩ := R8.ents len (by omega)
          have q4 := H7.c4
          rw [HQ.out.2.2.2.2.2.2, show ((len + 1 : Nat) : Int) - 1 = (len : Int) by omega] at q4
          have B2 : Below w.heap.size w w7 := B1.trans (K7.below (by have := B1.size; omega) (by simp; omega))
          have hl8 := R8.lt
          have hl9 := H7.lt
          have HB2 : Hid (Below w.heap.size w w7) := B2
          rw [show len + 1 - 1 = len from rfl]
          clear R7 R8 H7 K7 B1 B2
          generalize (movS i len) = S at *
          have hll : (len : Int) < (len : Int) + 1 := by omega
          go_wp2
          go_quiet (fail)
          go_wp2
          go_ret
          exact ⟨rfl, HB2.out.trans ((((Keeps.refl [] w7).alloc _).drewN nq).below (by have := HB2.out.size; omega) (by simp))⟩
end Go.Proofs.Ymbrdw
