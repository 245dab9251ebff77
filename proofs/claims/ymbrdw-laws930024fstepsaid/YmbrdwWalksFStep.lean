import Derived.Test.YmbrdwCore1
namespace Go.Proofs.Ymbrdw
open Go.RowKit

theorem instr4 {w : World} {b off : Nat} {a : Option Addr} {len : Nat} {z : Nat → Nat → Int} (h : InRow w b off a len 4 (fun j => .int (([.i64, .i64, .i64, .i64] : List IntKind).getD (j % 4) .i64) (z (j / 4) (j % 4)))) :
    ∀ i, i < len → w.cell? ⟨b, off + i * 4, none⟩ = some (.int .i64 (z i 0)) ∧ w.cell? ⟨b, off + i * 4 + 1, none⟩ = some (.int .i64 (z i 1)) ∧ w.cell? ⟨b, off + i * 4 + 2, none⟩ = some (.int .i64 (z i 2)) ∧ w.cell? ⟨b, off + i * 4 + 3, none⟩ = some (.int .i64 (z i 3)) := by
  intro i hi
  have e : ∀ j, j < 4 → w.cell? ⟨b, off + i * 4 + j, none⟩ = some (.int (([.i64, .i64, .i64, .i64] : List IntKind).getD j .i64) (z i j)) := fun j hj => by
    have := h.cell (i * 4 + j) (by omega)
    rw [show (i * 4 + j) % 4 = j by omega, show (i * 4 + j) / 4 = i by omega, ← Nat.add_assoc] at this
    exact this
  exact ⟨e 0 (by omega), e 1 (by omega), e 2 (by omega), e 3 (by omega)⟩

/-- the field of the j-th given slot -/
def fgiv (len : Nat) (z : Nat → Nat → Int) (e : Int) (j : Nat) : Nat → Int := fun i => if i < len then z i j else e
theorem fgiv_lt {len i : Nat} (z : Nat → Nat → Int) (e : Int) (j : Nat) (h : i < len) : fgiv len z e j i = z i j := by simp [fgiv, h]
theorem fgiv_ge {len i : Nat} (z : Nat → Nat → Int) (e : Int) (j : Nat) (h : ¬ i < len) : fgiv len z e j i = e := by simp [fgiv, h]

/-- what the filling loop of FStep holds -/
def FInv (w : World) (len : Nat) (z : Nat → Nat → Int) (b0 b1 b2 b3 : Int) (k : Nat) (wr : World) : Prop :=
  RowAt wr (w.heap.size + 1) 30 4 (len + 1) (len + 1) (ncell (part k (fgiv len z b0 0)) (part k (fgiv len z b1 1)) (part k (fgiv len z b2 2)) (part k (fgiv len z b3 3))) ∧
  RowAt wr w.heap.size 46 4 1 1 (ncell (fun _ => b0) (fun _ => b1) (fun _ => b2) (fun _ => b3)) ∧ Below w.heap.size w wr

theorem FInv.step {w : World} {len : Nat} {z : Nat → Nat → Int} {b0 b1 b2 b3 : Int} {k : Nat} {wr : World} (h : FInv w len z b0 b1 b2 b3 k wr) (x0 x1 x2 x3 : Int) (h0 : x0 = fgiv len z b0 0 k) (h1 : x1 = fgiv len z b1 1 k) (h2 : x2 = fgiv len z b2 2 k) (h3 : x3 = fgiv len z b3 3 k) (o : Obj) :
    FInv w len z b0 b1 b2 b3 (k + 1) (((((wr.setCell ⟨w.heap.size + 1, k * 4, none⟩ (.int .i64 x0)).setCell ⟨w.heap.size + 1, k * 4 + 1, none⟩ (.int .i64 x1)).setCell ⟨w.heap.size + 1, k * 4 + 2, none⟩ (.int .i64 x2)).setCell ⟨w.heap.size + 1, k * 4 + 3, none⟩ (.int .i64 x3)).alloc o) := by
  obtain ⟨r, x, bl⟩ := h
  have hs := bl.size
  exact ⟨(r.stepNode x0 x1 x2 x3 h0 h1 h2 h3).alloc _, ((((x.setOther _ _ (by show _ ≠ _ + 1; omega)).setOther _ _ (by show _ ≠ _ + 1; omega)).setOther _ _ (by show _ ≠ _ + 1; omega)).setOther _ _ (by show _ ≠ _ + 1; omega)).alloc _,
    ((((bl.setCell (by show _ ≤ _ + 1; omega) _).setCell (by show _ ≤ _ + 1; omega) _).setCell (by show _ ≤ _ + 1; omega) _).setCell (by show _ ≤ _ + 1; omega) _).alloc (by simpa using hs) _⟩

theorem rem_nat (a : Int) (n : Nat) (hn : 0 < n) : ∃ i : Nat, a % (n : Int) = i ∧ i < n := ⟨(a % (n : Int)).toNat, by have := Int.emod_nonneg a (show (n : Int) ≠ 0 by omega); omega, by have := Int.emod_lt_of_pos a (show (0 : Int) < n by omega); have := Int.emod_nonneg a (show (n : Int) ≠ 0 by omega); omega⟩

set_option maxRecDepth 100000 in
set_option maxHeartbeats 1000000 in
theorem walk_FStep (w : World) (a0 : Option Addr) (len cap : Nat) (z : Nat → Nat → Int) (hz : InStr [.i64, .i64, .i64, .i64] w a0 len z) (b0 : Int) (_wb0 : (Lit.int .i64 b0).wf = true) (b1 : Int) (_wb1 : (Lit.int .i64 b1).wf = true) (b2 : Int) (_wb2 : (Lit.int .i64 b2).wf = true) (b3 : Int) (_wb3 : (Lit.int .i64 b3).wf = true)
   (a2 : Int) (w2 : (Lit.int .u64 a2).wf = true) (a3 : Int) (w3 : (Lit.int .u64 a3).wf = true) (a4 : Int) (_w4 : (Lit.int .i64 a4).wf = true) (a5 : Int) (_w5 : (Lit.int .i64 a5).wf = true) (a6 : Int) (_w6 : (Lit.int .i64 a6).wf = true) (a7 : Int) (_w7 : (Lit.int .i64 a7).wf = true) :
    Calls Ydwm.prog 7 #[.slice a0 len cap, .agg #[.int .i64 b0, .int .i64 b1, .int .i64 b2, .int .i64 b3], .int .u64 a2, .int .u64 a3, .int .i64 a4, .int .i64 a5, .int .i64 a6, .int .i64 a7] w fun e w' => e = .returned (.bool true) ∧ Below w.heap.size w w' := by
  by_cases hbig : 1024 < len
  · have hbig' : (1024 : Int) < (len : Int) := by omega
    go_enter Ydwm.func7, Ydwm.ntmps7
    go_wp2
    go_ret
    exact ⟨rfl, (Below.refl _ _).alloc (Nat.le_refl _) _⟩
  have hlen : (len : Int) ≤ 1024 := by omega
  have hbig' : ¬ (1024 : Int) < (len : Int) := by omega
  obtain ⟨⟨b, off, hrow⟩, _⟩ := hz
  obtain ⟨h20, h21⟩ := wf_u64 w2
  obtain ⟨h30, h31⟩ := wf_u64 w3
  clear w2 w3
  obtain ⟨i, hi0, hi1⟩ := rem_nat a2 (len + 1) (by omega)
  obtain ⟨i2, hd0, hd1⟩ := rem_nat a3 (len + 2) (by omega)
  have hq1 : a2 % ((len : Int) + 1) = (i : Int) := hi0
  obtain ⟨hd, hhd⟩ : ∃ hd : Int, hd = (i2 : Int) - 1 := ⟨_, rfl⟩
  have hq2 : a3 % ((len : Int) + 1 + 1) = hd + 1 := by
    have : a3 % ((len : Int) + 1 + 1) = i2 := by rw [← hd0]; congr 1
    omega
  have hi2 : (i : Int) < (len : Int) + 1 := by omega
  have hd2 : hd < (len : Int) + 1 := by omega
  have hd3 : -1 ≤ hd := by omega
  clear hi0 hd0 hhd hd1
  have hmk : ∀ W, (Instr.makeSlice 31 (.int .i64 ((len : Int) + 1)) (.int .i64 ((len : Int) + 1))).run Ydwm.prog W = .ok (.slice (some ⟨W.heap.size, 0, none⟩) (len + 1) (len + 1)) (W.alloc (.cells (madeCells #[.int .i64 0, .int .i64 0, .int .i64 0, .int .i64 0] ((len + 1) * 4)) 30)) := fun W => by
    have := make_nodes (len + 1) (by omega) W; simpa using this
  go_enter Ydwm.func7, Ydwm.ntmps7
  go_wp2
  go_loopw [19] (fun j wr => ∃ k : Nat, k ≤ len + 1 ∧ j = .int .i64 k ∧ FInv w len z b0 b1 b2 b3 k wr) (fun j _ => len + 1 - (intOf j).toNat)
  case atStart =>
    refine ⟨0, by omega, rfl, ?_, ?_, ((Below.refl _ _).alloc (Nat.le_refl _) _).alloc (by simp) _⟩
    · have := RowAt.madeNodes (w.alloc (.cells #[.int .i64 b0, .int .i64 b1, .int .i64 b2, .int .i64 b3] 46)) 30 (len + 1) (fgiv len z b0 0) (fgiv len z b1 1) (fgiv len z b2 2) (fgiv len z b3 3) (by unfold maxLen; omega)
      simpa using this
    · refine RowAt.alloc ⟨⟨_, heap_alloc_new w _, rfl, fun j hj => ?_⟩, by omega, by unfold maxLen; omega⟩ _
      match j, hj with
      | 0, _ => rfl
      | 1, _ => rfl
      | 2, _ => rfl
      | 3, _ => rfl
  case round =>
    obtain ⟨k, hk, rfl, hinv⟩ := hrel
    have HI : Hid (FInv w len z b0 b1 b2 b3 k wr) := hinv
    obtain ⟨hrow1, hbox, hbel⟩ := hinv
    have e0 := hbox.cell 0 (by omega)
    have e1 := hbox.cell 1 (by omega)
    have e2 := hbox.cell 2 (by omega)
    have e3 := hbox.cell 3 (by omega)
    simp only [ncell] at e0 e1 e2 e3
    have hs1 := hrow1.lt
    obtain ⟨d0, d1, d2, d3, dz⟩ := hrow1.nodes
    by_cases hlt : k < len
    · have hlt' : (k : Int) < (len : Int) := by omega
      have hk2 : (k : Int) < (len : Int) + 1 := by omega
      obtain rfl := hrow.addr (by omega)
      have hblt := hrow.lt (by omega)
      have hb2 : b < wr.heap.size := by have := hbel.size; omega
      obtain ⟨g0, g1, g2, g3⟩ := instr4 (hrow.below hbel (fun _ => hblt)) k hlt
      have f0 := d0 k (by omega)
      have f1 := d1 k (by omega)
      have f2 := d2 k (by omega)
      have f3 := d3 k (by omega)
      clear hrow1 hbox d0 d1 d2 d3 hbel
      go_wp2
      go_roundw
      case rel => exact ⟨k + 1, by omega, by go_num, HI.out.step _ _ _ _ (fgiv_lt _ _ _ hlt).symm (fgiv_lt _ _ _ hlt).symm (fgiv_lt _ _ _ hlt).symm (fgiv_lt _ _ _ hlt).symm _⟩
      case measure => simp [intOf]; omega
    · have hlt' : ¬ (k : Int) < (len : Int) := by omega
      by_cases hk2 : k < len + 1
      · have hk2 : (k : Int) < (len : Int) + 1 := by omega
        have f0 := d0 k (by omega)
        have f1 := d1 k (by omega)
        have f2 := d2 k (by omega)
        have f3 := d3 k (by omega)
        clear hrow1 hbox d0 d1 d2 d3 hbel
        go_wp2
        go_roundw
        case rel => exact ⟨k + 1, by omega, by go_num, HI.out.step _ _ _ _ (fgiv_ge _ _ _ hlt).symm (fgiv_ge _ _ _ hlt).symm (fgiv_ge _ _ _ hlt).symm (fgiv_ge _ _ _ hlt).symm _⟩
        case measure => simp [intOf]; omega
      · have hk2 : ¬ (k : Int) < (len : Int) + 1 := by omega
        clear hrow1 hbox d0 d1 d2 d3 hbel e0 e1 e2 e3 hs1 dz
        go_wp2_with fail
        obtain ⟨hrow1, hbox, hbel⟩ := HI.out
        have H := CacheAt.boxed hd a4 a5 a6 a7 (hrow1.fullNode (m := k) (by omega))
        have hsz := hbel.size
        have hs1 := hrow1.lt
        refine (pushFront_at wr.heap.size (w.heap.size + 1) i _ _ H (by show i < len + 1; omega) (by show hd = -1 ∨ ∃ h : Nat, hd = h ∧ h < len + 1; by_cases h : hd = -1; exact .inl h; exact .inr ⟨hd.toNat, by omega, by omega⟩)).mono ?_
        rintro e w1 ⟨rfl, H1, K1, S1⟩
        have hbel1 : Below w.heap.size w w1 := (hbel.alloc (by omega) _).trans (K1.below (by simp; omega) (by simp; omega))
        have hbox1 := (hbox.alloc (.cells #[.slice (some ⟨w.heap.size + 1, 0, none⟩) (len + 1) (len + 1), .int .i64 hd, .int .i64 a4, .int .i64 a5, .int .i64 a6, .int .i64 a7] 33)).keeps K1 (by simp; omega)
        obtain ⟨c', hc'⟩ : ∃ c', c' = Cs.pushFront ⟨len + 1, fgiv len z b0 0, fgiv len z b1 1, fgiv len z b2 2, fgiv len z b3 3, hd, a4, a5, a6, a7⟩ i := ⟨_, rfl⟩
        rw [← hc'] at H1
        have hn : c'.n = len + 1 := by rw [hc']; unfold Cs.pushFront; split <;> rfl
        have hK : ∀ j, c'.key j = fgiv len z b0 0 j := fun j => by rw [hc']; unfold Cs.pushFront; split <;> rfl
        have hV : ∀ j, c'.val j = fgiv len z b1 1 j := fun j => by rw [hc']; unfold Cs.pushFront; split <;> rfl
        have hX : ∀ j, c'.next j = if j = i then hd else fgiv len z b3 3 j := fun j => by rw [hc']; unfold Cs.pushFront; split <;> rfl
        have hP : ∀ j : Nat, c'.prev j = if (j : Int) = hd then (i : Int) else if j = i then -1 else fgiv len z b2 2 j := fun j => by
          rw [hc']; unfold Cs.pushFront
          dsimp only
          split
          · rename_i h; rw [if_neg (by omega)]; rfl
          · rename_i h
            show upd (upd _ i (-1)) hd.toNat i j = _
            by_cases e : (j : Int) = hd
            · rw [if_pos e, show hd.toNat = j by omega, upd_same]
            · rw [if_neg e, upd_other _ _ _ _ (by omega)]; rfl
        have hT : c'.tail = if hd < 0 then (i : Int) else a4 := by
          rw [hc']; unfold Cs.pushFront
          dsimp only
          split
          · rw [if_pos (by omega)]
          · rw [if_neg (by omega)]
        have hH : c'.head = i := by rw [hc']; unfold Cs.pushFront; split <;> rfl
        have hF : c'.free = a5 := by rw [hc']; unfold Cs.pushFront; split <;> rfl
        have hS : c'.size = wrap64 (a6 + 1) := by rw [hc']; unfold Cs.pushFront; split <;> rfl
        have hC : c'.cap = a7 := by rw [hc']; unfold Cs.pushFront; split <;> rfl
        clear hc' H hrow1 hbox hbel HI
        have S2 : w1.heap.size = wr.heap.size + 1 := by rw [S1]; simp
        clear S1 K1
        generalize wr.heap.size = cb at *
        obtain ⟨hne, ncap, c0, r⟩ := H1.row (by omega)
        have c1 := H1.c1
        have c2 := H1.c2
        have c3 := H1.c3
        have c4 := H1.c4
        have c5 := H1.c5
        rw [hn] at c0 r
        rw [hT] at c2
        rw [hH] at c1; rw [hF] at c3; rw [hS] at c4; rw [hC] at c5
        have HR : Hid (RowAt w1 (w.heap.size + 1) 30 4 (len + 1) ncap (ncell c'.key c'.val c'.prev c'.next)) := r
        have HF : Hid ((∀ j, c'.key j = fgiv len z b0 0 j) ∧ (∀ j, c'.val j = fgiv len z b1 1 j) ∧ (∀ j, c'.next j = if j = i then hd else fgiv len z b3 3 j) ∧ (∀ j : Nat, c'.prev j = if (j : Int) = hd then (i : Int) else if j = i then -1 else fgiv len z b2 2 j)) := ⟨hK, hV, hX, hP⟩
        clear hK hV hX hP hT hH hF hS hC hn H1 r
        by_cases hneg : hd < 0
        all_goals
          first | rw [if_pos hneg] at c2 | rw [if_neg hneg] at c2
          go_wp2_with fail
          go_loopw [25] (fun j w2 => ∃ k : Nat, k ≤ len + 1 ∧ j = .int .i64 k ∧ Below w1.heap.size w1 w2) (fun j _ => len + 1 - (intOf j).toNat)
          case atStart => exact ⟨0, by omega, rfl, Below.refl _ _⟩
          case round =>
            obtain ⟨m, hm, rfl, hb2⟩ := hrel
            by_cases hmk : m < len + 1
            · have hm1 : (m : Int) < (len : Int) + 1 := by omega
              have hsz2 := hb2.size
              have hcb := hb2.cell (p := ⟨cb, 0, none⟩) (by show cb < _; omega)
              rw [c0] at hcb
              have hrr := HR.out.same (hb2.block _ (HR.out.lt))
              obtain ⟨d0, d1, d2, d3, _⟩ := hrr.nodes
              obtain ⟨fK, fV, fX, fP⟩ := HF.out
              have e0 := (hbox1.same (hb2.block _ hbox1.lt)).cell 0 (by omega)
              have e1 := (hbox1.same (hb2.block _ hbox1.lt)).cell 1 (by omega)
              have e2 := (hbox1.same (hb2.block _ hbox1.lt)).cell 2 (by omega)
              have e3 := (hbox1.same (hb2.block _ hbox1.lt)).cell 3 (by omega)
              simp only [ncell] at e0 e1 e2 e3
              have f0 := d0 m hmk
              have f1 := d1 m hmk
              have f2 := d2 m hmk
              have f3 := d3 m hmk
              rw [fK] at f0
              rw [fV] at f1
              rw [fP] at f2
              rw [fX] at f3
              clear d0 d1 d2 d3 fK fV fX fP hrr
              have hbx : w.heap.size < wr.heap.size := by omega
              have hnx : w.heap.size + 1 < wr.heap.size := by omega
              have hcx : cb < wr.heap.size := by omega
              have HB : Hid (Below w1.heap.size w1 wr) := hb2
              have hsz3 : w1.heap.size ≤ wr.heap.size + 1 := by omega
              clear hb2 c0 c1 c2 c3 c4 c5
              by_cases hlt : m < len
              · have hlt' : (m : Int) < (len : Int) := by omega
                obtain rfl := hrow.addr (by omega)
                have hblt := hrow.lt (by omega)
                have hb2 : b < wr.heap.size := by omega
                obtain ⟨g0, g1, g2, g3⟩ := instr4 (hrow.below (hbel1.trans (HB.out.mono (by omega))) (fun _ => hblt)) m hlt
                rw [fgiv_lt _ _ _ hlt] at f0 f1 f2 f3
                by_cases h1 : m = i
                · subst h1
                  rw [if_pos rfl] at f2 f3
                  by_cases h2 : (m : Int) = hd
                  · first
                    | (exfalso; omega)
                    | (subst h2
                       rw [if_pos rfl] at f2
                       go_wp2
                       go_roundw
                       case rel => exact ⟨m + 1, by omega, by go_num, (HB.out.alloc hsz2 _).alloc (by simp; omega) _⟩
                       case measure => simp [intOf]; omega)
                  · rw [if_neg h2] at f2
                    have h2' : ((m : Int) == hd) = false := beq_eq_false_iff_ne.2 h2
                    go_wp2
                    go_roundw
                    case rel => exact ⟨m + 1, by omega, by go_num, (HB.out.alloc hsz2 _).alloc (by simp; omega) _⟩
                    case measure => simp [intOf]; omega
                · have h1' : ((m : Int) == (i : Int)) = false := beq_eq_false_iff_ne.2 (by omega)
                  rw [if_neg h1] at f2 f3
                  by_cases h2 : (m : Int) = hd
                  · first
                    | (exfalso; omega)
                    | (subst h2
                       rw [if_pos rfl] at f2
                       go_wp2
                       go_roundw
                       case rel => exact ⟨m + 1, by omega, by go_num, (HB.out.alloc hsz2 _).alloc (by simp; omega) _⟩
                       case measure => simp [intOf]; omega)
                  · rw [if_neg h2] at f2
                    have h2' : ((m : Int) == hd) = false := beq_eq_false_iff_ne.2 h2
                    go_wp2
                    go_roundw
                    case rel => exact ⟨m + 1, by omega, by go_num, (HB.out.alloc hsz2 _).alloc (by simp; omega) _⟩
                    case measure => simp [intOf]; omega
              · have hlt' : ¬ (m : Int) < (len : Int) := by omega
                rw [fgiv_ge _ _ _ hlt] at f0 f1 f2 f3
                by_cases h1 : m = i
                · subst h1
                  rw [if_pos rfl] at f2 f3
                  by_cases h2 : (m : Int) = hd
                  · first
                    | (exfalso; omega)
                    | (subst h2
                       rw [if_pos rfl] at f2
                       go_wp2
                       go_roundw
                       case rel => exact ⟨m + 1, by omega, by go_num, (HB.out.alloc hsz2 _).alloc (by simp; omega) _⟩
                       case measure => simp [intOf]; omega)
                  · rw [if_neg h2] at f2
                    have h2' : ((m : Int) == hd) = false := beq_eq_false_iff_ne.2 h2
                    go_wp2
                    go_roundw
                    case rel => exact ⟨m + 1, by omega, by go_num, (HB.out.alloc hsz2 _).alloc (by simp; omega) _⟩
                    case measure => simp [intOf]; omega
                · have h1' : ((m : Int) == (i : Int)) = false := beq_eq_false_iff_ne.2 (by omega)
                  rw [if_neg h1] at f2 f3
                  by_cases h2 : (m : Int) = hd
                  · first
                    | (exfalso; omega)
                    | (subst h2
                       rw [if_pos rfl] at f2
                       go_wp2
                       go_roundw
                       case rel => exact ⟨m + 1, by omega, by go_num, (HB.out.alloc hsz2 _).alloc (by simp; omega) _⟩
                       case measure => simp [intOf]; omega)
                  · rw [if_neg h2] at f2
                    have h2' : ((m : Int) == hd) = false := beq_eq_false_iff_ne.2 h2
                    go_wp2
                    go_roundw
                    case rel => exact ⟨m + 1, by omega, by go_num, (HB.out.alloc hsz2 _).alloc (by simp; omega) _⟩
                    case measure => simp [intOf]; omega
            · have hm1 : ¬ (m : Int) < (len : Int) + 1 := by omega
              clear hmk
              go_wp2
              go_ret
              exact ⟨rfl, hbel1.trans (hb2.mono (by omega))⟩
end Go.Proofs.Ymbrdw
