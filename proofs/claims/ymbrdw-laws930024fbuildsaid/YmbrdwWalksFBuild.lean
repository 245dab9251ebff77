import Derived.Test.YmbrdwCore1
import Derived.Deep.QuietTactic
import Derived.BigQuiet
namespace Go.Proofs.Ymbrdw
open Go.RowKit

/-! ### rotations -/
theorem mod_two (a n : Nat) (h : a < 2 * n) : a % n = if a < n then a else a - n := by
  by_cases h1 : a < n
  · rw [if_pos h1, Nat.mod_eq_of_lt h1]
  · rw [if_neg h1, Nat.mod_eq_sub_mod (by omega), Nat.mod_eq_of_lt (by omega)]
/-- the slot of place j, the place of slot x -/
def rs (f n j : Nat) : Nat := (f + j) % n
def rp (f n x : Nat) : Nat := (x + n - f) % n
theorem rs_lt (f n j : Nat) (h : 0 < n) : rs f n j < n := Nat.mod_lt _ h
theorem rp_lt (f n x : Nat) (h : 0 < n) : rp f n x < n := Nat.mod_lt _ h
theorem rp_rs (f n j : Nat) (hf : f < n) (hj : j < n) : rp f n (rs f n j) = j := by
  unfold rp rs
  rw [mod_two (f + j) n (by omega)]
  split <;> rw [mod_two _ n (by omega)] <;> split <;> omega
theorem rs_rp (f n x : Nat) (hf : f < n) (hx : x < n) : rs f n (rp f n x) = x := by
  unfold rp rs
  rw [mod_two (x + n - f) n (by omega)]
  split <;> rw [mod_two _ n (by omega)] <;> split <;> omega
theorem rs_zero (f n : Nat) (hf : f < n) : rs f n 0 = f := by unfold rs; rw [Nat.add_zero, Nat.mod_eq_of_lt hf]

/-- the cache behind k pushes -/
def fbst (n f k : Nat) (K V : Nat → Int) (sp sx fr cp : Int) : Cs :=
  { n := n, key := K, val := V,
    prev := fun x => if rp f n x < k then (if rp f n x + 1 = k then -1 else (rs f n (rp f n x + 1) : Int)) else sp,
    next := fun x => if rp f n x < k then (if rp f n x = 0 then -1 else (rs f n (rp f n x - 1) : Int)) else sx,
    head := if k = 0 then -1 else (rs f n (k - 1) : Int), tail := if k = 0 then -1 else (f : Int), free := fr, size := k, cap := cp }

theorem wrap64_small (x : Int) (h0 : -1000000000 ≤ x) (h1 : x ≤ 1000000000) : wrap64 x = x := by unfold wrap64; omega

theorem fbst_step {w : World} {cb nb : Nat} (n f k : Nat) (K V : Nat → Int) (sp sx fr cp : Int) (hf : f < n) (hk : k < n) (hn : n ≤ 2000) (h : CacheAt w cb nb ((fbst n f k K V sp sx fr cp).pushFront (rs f n k))) :
    CacheAt w cb nb (fbst n f (k + 1) K V sp sx fr cp) := by
  have key : ∀ x, x < n → ∀ j, j < n → (x = rs f n j ↔ rp f n x = j) := fun x hx j hj => ⟨fun e => by rw [e, rp_rs f n j hf hj], fun e => by rw [← e, rs_rp f n x hf hx]⟩
  by_cases h0 : k = 0
  · subst h0
    have e : (fbst n f 0 K V sp sx fr cp).pushFront (rs f n 0) = { fbst n f 0 K V sp sx fr cp with prev := upd (fbst n f 0 K V sp sx fr cp).prev (rs f n 0) (-1), next := upd (fbst n f 0 K V sp sx fr cp).next (rs f n 0) (-1), tail := (rs f n 0 : Int), head := (rs f n 0 : Int), size := 1 } := by
      unfold Cs.pushFront; rw [if_pos (by simp [fbst])]; simp [fbst, wrap64]
    rw [e] at h
    have := h.congr (k := K) (v := V) (p := (fbst n f 1 K V sp sx fr cp).prev) (x := (fbst n f 1 K V sp sx fr cp).next) (fun _ _ => rfl) (fun _ _ => rfl) ?_ ?_
    · have e2 : fbst n f (0 + 1) K V sp sx fr cp = { fbst n f 0 K V sp sx fr cp with prev := (fbst n f 1 K V sp sx fr cp).prev, next := (fbst n f 1 K V sp sx fr cp).next, tail := (rs f n 0 : Int), head := (rs f n 0 : Int), size := 1 } := by
        simp [fbst, rs_zero f n hf]
      rw [e2]; exact this
    · intro x hx
      show upd _ _ _ x = _
      by_cases e : x = rs f n 0
      · rw [e, upd_same]; simp [fbst, rp_rs f n 0 hf (by omega)]
      · rw [upd_other _ _ _ _ e]
        have : rp f n x ≠ 0 := fun e' => e ((key x hx 0 (by omega)).2 e')
        simp [fbst, this]
    · intro x hx
      show upd _ _ _ x = _
      by_cases e : x = rs f n 0
      · rw [e, upd_same]; simp [fbst, rp_rs f n 0 hf (by omega)]
      · rw [upd_other _ _ _ _ e]
        have : rp f n x ≠ 0 := fun e' => e ((key x hx 0 (by omega)).2 e')
        simp [fbst, this]
  · have hh : (fbst n f k K V sp sx fr cp).head = (rs f n (k - 1) : Int) := by simp [fbst, h0]
    have e : (fbst n f k K V sp sx fr cp).pushFront (rs f n k) = { fbst n f k K V sp sx fr cp with prev := upd (upd (fbst n f k K V sp sx fr cp).prev (rs f n k) (-1)) (rs f n (k - 1)) (rs f n k), next := upd (fbst n f k K V sp sx fr cp).next (rs f n k) (rs f n (k - 1)), head := (rs f n k : Int), size := (k : Int) + 1 } := by
      unfold Cs.pushFront; rw [if_neg (by rw [hh]; omega), hh]; simp [fbst, wrap64_small ((k : Int) + 1) (by omega) (by omega)]
    rw [e] at h
    have := h.congr (k := K) (v := V) (p := (fbst n f (k + 1) K V sp sx fr cp).prev) (x := (fbst n f (k + 1) K V sp sx fr cp).next) (fun _ _ => rfl) (fun _ _ => rfl) ?_ ?_
    · have e2 : fbst n f (k + 1) K V sp sx fr cp = { fbst n f k K V sp sx fr cp with prev := (fbst n f (k + 1) K V sp sx fr cp).prev, next := (fbst n f (k + 1) K V sp sx fr cp).next, head := (rs f n k : Int), size := (k : Int) + 1 } := by
        simp [fbst, h0]
      rw [e2]; exact this
    · intro x hx
      show upd (upd _ _ _) _ _ x = _
      by_cases e1 : x = rs f n (k - 1)
      · have := (key x hx (k - 1) (by omega)).1 e1
        rw [e1, upd_same, ← e1]; simp only [fbst, this]
        rw [if_pos (show k - 1 < k + 1 by omega), if_neg (show ¬ k - 1 + 1 = k + 1 by omega), show k - 1 + 1 = k by omega]
      · rw [upd_other _ _ _ _ e1]
        have n1 : rp f n x ≠ k - 1 := fun e' => e1 ((key x hx (k - 1) (by omega)).2 e')
        by_cases e2 : x = rs f n k
        · have := (key x hx k hk).1 e2
          rw [e2, upd_same, ← e2]; simp only [fbst, this]; simp
        · rw [upd_other _ _ _ _ e2]
          have n2 : rp f n x ≠ k := fun e' => e2 ((key x hx k hk).2 e')
          simp only [fbst]
          by_cases lt : rp f n x < k
          · rw [if_pos lt, if_pos (show rp f n x < k + 1 by omega), if_neg (show ¬ rp f n x + 1 = k by omega), if_neg (show ¬ rp f n x + 1 = k + 1 by omega)]
          · rw [if_neg lt, if_neg (show ¬ rp f n x < k + 1 by omega)]
    · intro x hx
      show upd _ _ _ x = _
      by_cases e2 : x = rs f n k
      · have := (key x hx k hk).1 e2
        rw [e2, upd_same, ← e2]; simp only [fbst, this]; simp [h0]
      · rw [upd_other _ _ _ _ e2]
        have n2 : rp f n x ≠ k := fun e' => e2 ((key x hx k hk).2 e')
        simp only [fbst]
        by_cases lt : rp f n x < k
        · rw [if_pos lt, if_pos (show rp f n x < k + 1 by omega)]
        · rw [if_neg lt, if_neg (show ¬ rp f n x < k + 1 by omega)]

set_option maxHeartbeats 400000 in
theorem fslot_any (f k n : Int) (w : World) (h0 : 0 ≤ f) (h1 : f ≤ 100000) (h2 : 0 ≤ k) (h3 : k ≤ 100000) (h4 : 0 < n) (h5 : n ≤ 100000) :
    Calls Ydwm.prog 20 #[.int .i64 f, .int .i64 k, .int .i64 n] w fun e w' => e = .returned (.int .i64 ((f + k) % n)) ∧ w' = w := by
  go_enter Ydwm.func20, Ydwm.ntmps20
  go_wp2
  go_ret
  exact ⟨rfl, rfl⟩

theorem Below.drewN' {B : Nat} {a w : World} (h : Below B a w) (n : Nat) : Below B a (w.drewN n) := h.trans ⟨rfl, rfl, rfl, Nat.le_refl _, fun _ _ => rfl⟩

theorem fslot_at (f l k : Nat) (kk : Int) (w : World) (hk : kk = k) (h1 : f ≤ 10000) (h3 : k ≤ 10000) (h5 : l ≤ 10000) :
    Calls Ydwm.prog 20 #[.int .i64 f, .int .i64 kk, .int .i64 ((l : Int) + 1)] w fun e w' => e = .returned (.int .i64 (rs f (l + 1) k)) ∧ w' = w :=
  (fslot_any f kk ((l : Int) + 1) w (by omega) (by omega) (by omega) (by omega) (by omega) (by omega)).mono fun e w' ⟨he, hw⟩ => ⟨by rw [he, hk]; unfold rs; simp, hw⟩

theorem in1 {w : World} {b off : Nat} {a : Option Addr} {len : Nat} {k : IntKind} {f : Nat → Int} (h : InRow w b off a len 1 (fun j => .int k (f j))) : ∀ i, i < len → w.cell? ⟨b, off + i, none⟩ = some (.int k (f i)) := fun i hi => h.cell i (by omega)

/-- the value of the j-th slot -/
def vgiv (len : Nat) (z : Nat → Int) (e : Int) : Nat → Int := fun i => if i < len then z i else e
theorem vgiv_lt {len i : Nat} (z : Nat → Int) (e : Int) (h : i < len) : vgiv len z e i = z i := by simp [vgiv, h]
theorem vgiv_ge {len i : Nat} (z : Nat → Int) (e : Int) (h : ¬ i < len) : vgiv len z e i = e := by simp [vgiv, h]

theorem rem_nat (a : Int) (n : Nat) (hn : 0 < n) : ∃ i : Nat, a % (n : Int) = i ∧ i < n := ⟨(a % (n : Int)).toNat, by have := Int.emod_nonneg a (show (n : Int) ≠ 0 by omega); omega, by have := Int.emod_lt_of_pos a (show (0 : Int) < n by omega); have := Int.emod_nonneg a (show (n : Int) ≠ 0 by omega); omega⟩

set_option maxRecDepth 100000 in
set_option maxHeartbeats 1000000 in
theorem walk_FBuild (w : World) (a0 : Option Addr) (len cap : Nat) (z : Nat → Int) (hz : InInts .i64 w a0 len z) (a1 : Int) (w1 : (Lit.int .u64 a1).wf = true) (a2 : Int) (w2 : (Lit.int .u64 a2).wf = true) (a3 : Int) (_w3 : (Lit.int .i64 a3).wf = true) (a4 : Int) (_w4 : (Lit.int .i64 a4).wf = true) (a5 : Int) (_w5 : (Lit.int .i64 a5).wf = true) (a6 : Int) (_w6 : (Lit.int .i64 a6).wf = true) :
    Calls Ydwm.prog 6 #[.slice a0 len cap, .int .u64 a1, .int .u64 a2, .int .i64 a3, .int .i64 a4, .int .i64 a5, .int .i64 a6] w fun e w' => e = .returned (.bool true) ∧ Below w.heap.size w w' := by
  by_cases hbig : 1024 < len
  · have hbig' : (1024 : Int) < (len : Int) := by omega
    go_enter Ydwm.func6, Ydwm.ntmps6
    go_wp2
    go_ret
    exact ⟨rfl, Below.refl _ _⟩
  have hlen : (len : Int) ≤ 1024 := by omega
  have hbig' : ¬ (1024 : Int) < (len : Int) := by omega
  obtain ⟨⟨b, off, hrow⟩, _⟩ := hz
  obtain ⟨h20, h21⟩ := wf_u64 w1
  obtain ⟨h30, h31⟩ := wf_u64 w2
  clear w1 w2
  obtain ⟨f, hf0, hf1⟩ := rem_nat a1 (len + 1) (by omega)
  obtain ⟨m', hm0, hm1⟩ := rem_nat a2 (len + 1) (by omega)
  have hq1 : a1 % ((len : Int) + 1) = (f : Int) := hf0
  have hq2 : a2 % ((len : Int) + 1) = (m' : Int) := hm0
  have hf2 : (f : Int) < (len : Int) + 1 := by omega
  have hm2 : (m' : Int) < (len : Int) + 1 := by omega
  clear hf0 hm0
  have hmk : ∀ W, (Instr.makeSlice 31 (.int .i64 ((len : Int) + 1)) (.int .i64 ((len : Int) + 1))).run Ydwm.prog W = .ok (.slice (some ⟨W.heap.size, 0, none⟩) (len + 1) (len + 1)) (W.alloc (.cells (madeCells #[.int .i64 0, .int .i64 0, .int .i64 0, .int .i64 0] ((len + 1) * 4)) 30)) := fun W => by
    have := make_nodes (len + 1) (by omega) W; simpa using this
  go_enter Ydwm.func6, Ydwm.ntmps6
  go_wp2
  go_loopw [17] (fun j wr => ∃ k : Nat, k ≤ len + 1 ∧ j = .int .i64 k ∧ RowAt wr w.heap.size 30 4 (len + 1) (len + 1) (ncell (part k fun i => (i : Int)) (part k (vgiv len z 0)) (part k fun _ => a3) (part k fun _ => a4)) ∧ Below w.heap.size w wr) (fun j _ => len + 1 - (intOf j).toNat)
  case atStart => exact ⟨0, by omega, rfl, RowAt.madeNodes w 30 (len + 1) _ _ _ _ (by unfold maxLen; omega), (Below.refl _ _).alloc (Nat.le_refl _) _⟩
  case round =>
    obtain ⟨k, hk, rfl, hrow1, hbel⟩ := hrel
    by_cases hk2 : k < len + 1
    · have hk3 : (k : Int) < (len : Int) + 1 := by omega
      obtain ⟨d0, d1, d2, d3, dz⟩ := hrow1.nodes
      have f0 := d0 k (by omega)
      have f1 := d1 k (by omega)
      have f2 := d2 k (by omega)
      have f3 := d3 k (by omega)
      by_cases hlt : k < len
      · have hlt' : (k : Int) < (len : Int) := by omega
        obtain rfl := hrow.addr (by omega)
        have hblt := hrow.lt (by omega)
        have g0 := in1 (hrow.below hbel (fun _ => hblt)) k hlt
        have HR : Hid (RowAt wr w.heap.size 30 4 (len + 1) (len + 1) (ncell (part k fun i => (i : Int)) (part k (vgiv len z 0)) (part k fun _ => a3) (part k fun _ => a4)) ∧ Below w.heap.size w wr) := ⟨hrow1, hbel⟩
        clear hrow1 d0 d1 d2 d3 hbel
        go_wp2
        go_roundw
        case rel => exact ⟨k + 1, by omega, by go_num, HR.out.1.stepNode _ _ _ _ rfl (vgiv_lt _ _ hlt).symm rfl rfl, (((HR.out.2.setCell (Nat.le_refl _) _).setCell (Nat.le_refl _) _).setCell (Nat.le_refl _) _).setCell (Nat.le_refl _) _⟩
        case measure => simp [intOf]; omega
      · have hlt' : ¬ (k : Int) < (len : Int) := by omega
        have HR : Hid (RowAt wr w.heap.size 30 4 (len + 1) (len + 1) (ncell (part k fun i => (i : Int)) (part k (vgiv len z 0)) (part k fun _ => a3) (part k fun _ => a4)) ∧ Below w.heap.size w wr) := ⟨hrow1, hbel⟩
        clear hrow1 d0 d1 d2 d3 hbel
        go_wp2
        go_roundw
        case rel => exact ⟨k + 1, by omega, by go_num, HR.out.1.stepNode _ _ _ _ rfl (vgiv_ge _ _ hlt).symm rfl rfl, (((HR.out.2.setCell (Nat.le_refl _) _).setCell (Nat.le_refl _) _).setCell (Nat.le_refl _) _).setCell (Nat.le_refl _) _⟩
        case measure => simp [intOf]; omega
    · have hk3 : ¬ (k : Int) < (len : Int) + 1 := by omega
      have H := CacheAt.boxed (-1) (-1) a5 0 a6 (hrow1.fullNode (m := k) (by omega))
      have hlt1 := hrow1.lt
      have hbel1 := hbel.alloc hbel.size (.cells #[.slice (some ⟨w.heap.size, 0, none⟩) (len + 1) (len + 1), .int .i64 (-1), .int .i64 (-1), .int .i64 a5, .int .i64 0, .int .i64 a6] 33)
      have H0 : CacheAt (wr.alloc (.cells #[.slice (some ⟨w.heap.size, 0, none⟩) (len + 1) (len + 1), .int .i64 (-1), .int .i64 (-1), .int .i64 a5, .int .i64 0, .int .i64 a6] 33)) wr.heap.size w.heap.size (fbst (len + 1) f 0 (fun i => (i : Int)) (vgiv len z 0) a3 a4 a5 a6) := by
        simpa [fbst] using H
      have hs0 := hbel.size
      clear H hrow1 hbel
      go_wp2
      generalize hcb : wr.heap.size = cb at *
      go_loopw [22] (fun j wq => ∃ k : Nat, k ≤ m' + 1 ∧ j = .int .i64 k ∧ CacheAt wq cb w.heap.size (fbst (len + 1) f k (fun i => (i : Int)) (vgiv len z 0) a3 a4 a5 a6) ∧ Below w.heap.size w wq) (fun j _ => m' + 1 - (intOf j).toNat)
      case atStart => exact ⟨0, by omega, rfl, H0, hbel1⟩
      case round =>
        obtain ⟨q, hq, rfl, HC, hb2⟩ := hrel
        have hrlt := rs_lt f (len + 1) q (by omega)
        by_cases hqm : q < m' + 1
        · have hqm' : (q : Int) < (m' : Int) + 1 := by omega
          have HH : Hid (CacheAt wr cb w.heap.size (fbst (len + 1) f q (fun i => (i : Int)) (vgiv len z 0) a3 a4 a5 a6) ∧ Below w.heap.size w wr) := ⟨HC, hb2⟩
          clear HC hb2
          go_wp2_with fail
          refine (fslot_at f len q _ _ rfl (by omega) (by omega) (by omega)).mono ?_
          rintro e w' ⟨rfl, rfl⟩
          go_wp2_with fail
          refine (pushFront_at cb w.heap.size (rs f (len + 1) q) _ _ HH.out.1 hrlt ?_).mono ?_
          · by_cases h0 : q = 0
            · left; simp [fbst, h0]
            · right; exact ⟨rs f (len + 1) (q - 1), by simp [fbst, h0], rs_lt _ _ _ (by show 0 < len + 1; omega)⟩
          rintro e w3 ⟨rfl, H3, K3, S3⟩
          have H4 := fbst_step (len + 1) f q _ _ a3 a4 a5 a6 hf1 (by omega) (by omega) H3
          have B4 : Below w.heap.size w w3 := HH.out.2.trans (K3.below HH.out.2.size (by simp; omega))
          clear H3 K3 S3
          go_wp2
          go_roundw
          case rel => exact ⟨q + 1, by omega, by go_num, H4, B4⟩
          case measure => simp [intOf]; omega
        · have hqm' : ¬ (q : Int) < (m' : Int) + 1 := by omega
          obtain rfl : q = m' + 1 := by omega
          obtain ⟨hne, ncap, c0, r⟩ := HC.row (by show 0 < len + 1; omega)
          have c1 := HC.c1
          have c2 := HC.c2
          have c3 := HC.c3
          have c4 := HC.c4
          have c5 := HC.c5
          simp only [fbst] at c0 c1 c2 c3 c4 c5
          rw [if_neg (by omega)] at c1 c2
          rw [Nat.add_sub_cancel] at c1
          rw [show ((m' + 1 : Nat) : Int) = (m' : Int) + 1 by omega] at c4
          have HR : Hid (RowAt wr w.heap.size 30 4 (len + 1) ncap (ncell (fun i => (i : Int)) (vgiv len z 0) (fbst (len + 1) f (m' + 1) (fun i => (i : Int)) (vgiv len z 0) a3 a4 a5 a6).prev (fbst (len + 1) f (m' + 1) (fun i => (i : Int)) (vgiv len z 0) a3 a4 a5 a6).next)) := r
          clear r
          go_wp2
          go_quiet ((go_at_call 20; exact Calls.quiet_of_same (fslot_at f len m' _ _ (by omega) (by omega) (by omega) (by omega))))
          go_wp2
          have hsw := hb2.size
          have hcw := HC.lt
          clear HC c1 c2 c3 c4 c5
          generalize wr = w5 at *
          go_loopw [23] (fun j wq => ∃ k : Nat, k ≤ len + 1 ∧ j = .int .i64 k ∧ Below w5.heap.size w5 wq) (fun j _ => len + 1 - (intOf j).toNat)
          case atStart => exact ⟨0, by omega, rfl, Below.drewN' (Below.refl _ _) _⟩
          case round =>
            obtain ⟨x, hx, rfl, hb3⟩ := hrel
            by_cases hxl : x < len + 1
            · have hxl' : (x : Int) < (len : Int) + 1 := by omega
              have hs := rs_lt f (len + 1) x (by omega)
              have hrp := rp_rs f (len + 1) x hf1 hxl
              have hsz3 := hb3.size
              have hcc : wr.cell? ⟨cb, 0, none⟩ = some (.slice (some ⟨w.heap.size, 0, none⟩) (len + 1) ncap) := (hb3.cell hcw).trans c0
              obtain ⟨d0, d1, d2, d3, _⟩ := (HR.out.same (hb3.block _ HR.out.lt)).nodes
              have f0 := d0 _ hs
              have f1 := d1 _ hs
              have f2 := d2 _ hs
              have f3 := d3 _ hs
              simp only [fbst, hrp] at f2 f3
              have hs' : (rs f (len + 1) x : Int) < (len : Int) + 1 := by omega
              have hbx : w.heap.size < wr.heap.size := by have := HR.out.lt; omega
              have hcx : cb < wr.heap.size := by omega
              have HB : Hid (Below w5.heap.size w5 wr) := hb3
              have g0 : ∀ j, j < len → a0 = some ⟨b, off, none⟩ ∧ wr.cell? ⟨b, off + j, none⟩ = some (.int .i64 (z j)) := fun j hj =>
                ⟨hrow.addr (by omega), in1 (hrow.below (hb2.trans (hb3.mono hsw)) (fun h => hrow.lt h)) j hj⟩
              have G : Hid (∀ j, j < len → a0 = some ⟨b, off, none⟩ ∧ wr.cell? ⟨b, off + j, none⟩ = some (.int .i64 (z j))) := g0
              have RS : Hid (rp f (len + 1) (rs f (len + 1) x) = x) := hrp
              clear d0 d1 d2 d3 hb3 g0 hrp c0
              go_wp2_with fail
              refine (fslot_at f len x _ _ rfl (by omega) (by omega) (by omega)).mono ?_
              rintro e w' ⟨rfl, rfl⟩
              generalize rs f (len + 1) x = s at *
              by_cases hsl : s < len
              · have hsl' : (s : Int) < (len : Int) := by omega
                obtain ⟨rfl, gs⟩ := G.out s hsl
                rw [vgiv_lt _ _ hsl] at f1
                clear G
                by_cases hm : x < m' + 1
                · have hm' : (x : Int) < (m' : Int) + 1 := by omega
                  rw [if_pos hm] at f2 f3
                  by_cases h0 : x = 0
                  · rw [if_pos h0] at f3
                    have h0' : ¬ (0 : Int) < (x : Int) := by omega
                    by_cases h1 : x + 1 = m' + 1
                    · rw [if_pos h1] at f2
                      have h1' : ¬ (x : Int) < (m' : Int) := by omega
                      clear h0 h1
                      go_wp2
                      go_roundw
                      case rel => exact ⟨x + 1, by omega, by go_num, HB.out.alloc hsz3 _⟩
                      case measure => simp [intOf]; omega
                    · rw [if_neg h1] at f2
                      have h1' : (x : Int) < (m' : Int) := by omega
                      clear h0 h1
                      go_wp2_with fail
                      refine (fslot_at f len (x + 1) _ _ (by omega) (by omega) (by omega) (by omega)).mono ?_
                      rintro e w6 ⟨rfl, rfl⟩
                      go_wp2
                      go_roundw
                      case rel => exact ⟨x + 1, by omega, by go_num, HB.out.alloc hsz3 _⟩
                      case measure => simp [intOf]; omega
                  · rw [if_neg h0] at f3
                    have h0' : (0 : Int) < (x : Int) := by omega
                    by_cases h1 : x + 1 = m' + 1
                    · rw [if_pos h1] at f2
                      have h1' : ¬ (x : Int) < (m' : Int) := by omega
                      clear h0 h1
                      go_wp2_with fail
                      refine (fslot_at f len (x - 1) _ _ (by omega) (by omega) (by omega) (by omega)).mono ?_
                      rintro e w6 ⟨rfl, rfl⟩
                      go_wp2
                      go_roundw
                      case rel => exact ⟨x + 1, by omega, by go_num, HB.out.alloc hsz3 _⟩
                      case measure => simp [intOf]; omega
                    · rw [if_neg h1] at f2
                      have h1' : (x : Int) < (m' : Int) := by omega
                      clear h0 h1
                      go_wp2_with fail
                      refine (fslot_at f len (x - 1) _ _ (by omega) (by omega) (by omega) (by omega)).mono ?_
                      rintro e w6 ⟨rfl, rfl⟩
                      go_wp2_with fail
                      refine (fslot_at f len (x + 1) _ _ (by omega) (by omega) (by omega) (by omega)).mono ?_
                      rintro e w6 ⟨rfl, rfl⟩
                      go_wp2
                      go_roundw
                      case rel => exact ⟨x + 1, by omega, by go_num, HB.out.alloc hsz3 _⟩
                      case measure => simp [intOf]; omega
                · have hm' : ¬ (x : Int) < (m' : Int) + 1 := by omega
                  rw [if_neg hm] at f2 f3
                  go_wp2
                  go_roundw
                  case rel => exact ⟨x + 1, by omega, by go_num, HB.out.alloc hsz3 _⟩
                  case measure => simp [intOf]; omega
              · have hsl' : ¬ (s : Int) < (len : Int) := by omega
                rw [vgiv_ge _ _ hsl] at f1
                clear G
                by_cases hm : x < m' + 1
                · have hm' : (x : Int) < (m' : Int) + 1 := by omega
                  rw [if_pos hm] at f2 f3
                  by_cases h0 : x = 0
                  · rw [if_pos h0] at f3
                    have h0' : ¬ (0 : Int) < (x : Int) := by omega
                    by_cases h1 : x + 1 = m' + 1
                    · rw [if_pos h1] at f2
                      have h1' : ¬ (x : Int) < (m' : Int) := by omega
                      clear h0 h1
                      go_wp2
                      go_roundw
                      case rel => exact ⟨x + 1, by omega, by go_num, HB.out.alloc hsz3 _⟩
                      case measure => simp [intOf]; omega
                    · rw [if_neg h1] at f2
                      have h1' : (x : Int) < (m' : Int) := by omega
                      clear h0 h1
                      go_wp2_with fail
                      refine (fslot_at f len (x + 1) _ _ (by omega) (by omega) (by omega) (by omega)).mono ?_
                      rintro e w6 ⟨rfl, rfl⟩
                      go_wp2
                      go_roundw
                      case rel => exact ⟨x + 1, by omega, by go_num, HB.out.alloc hsz3 _⟩
                      case measure => simp [intOf]; omega
                  · rw [if_neg h0] at f3
                    have h0' : (0 : Int) < (x : Int) := by omega
                    by_cases h1 : x + 1 = m' + 1
                    · rw [if_pos h1] at f2
                      have h1' : ¬ (x : Int) < (m' : Int) := by omega
                      clear h0 h1
                      go_wp2_with fail
                      refine (fslot_at f len (x - 1) _ _ (by omega) (by omega) (by omega) (by omega)).mono ?_
                      rintro e w6 ⟨rfl, rfl⟩
                      go_wp2
                      go_roundw
                      case rel => exact ⟨x + 1, by omega, by go_num, HB.out.alloc hsz3 _⟩
                      case measure => simp [intOf]; omega
                    · rw [if_neg h1] at f2
                      have h1' : (x : Int) < (m' : Int) := by omega
                      clear h0 h1
                      go_wp2_with fail
                      refine (fslot_at f len (x - 1) _ _ (by omega) (by omega) (by omega) (by omega)).mono ?_
                      rintro e w6 ⟨rfl, rfl⟩
                      go_wp2_with fail
                      refine (fslot_at f len (x + 1) _ _ (by omega) (by omega) (by omega) (by omega)).mono ?_
                      rintro e w6 ⟨rfl, rfl⟩
                      go_wp2
                      go_roundw
                      case rel => exact ⟨x + 1, by omega, by go_num, HB.out.alloc hsz3 _⟩
                      case measure => simp [intOf]; omega
                · have hm' : ¬ (x : Int) < (m' : Int) + 1 := by omega
                  rw [if_neg hm] at f2 f3
                  go_wp2
                  go_roundw
                  case rel => exact ⟨x + 1, by omega, by go_num, HB.out.alloc hsz3 _⟩
                  case measure => simp [intOf]; omega
            · have hxl' : ¬ (x : Int) < (len : Int) + 1 := by omega
              go_wp2
              go_ret
              exact ⟨rfl, hb2.trans (hb3.mono hsw)⟩
end Go.Proofs.Ymbrdw
