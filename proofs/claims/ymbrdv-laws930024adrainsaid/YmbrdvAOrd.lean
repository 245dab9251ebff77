/- aplus and aorder. -/
import Derived.Test.YmbrdvLists
import Derived.BigQuiet
namespace Go.Proofs.Ymbrdv
open Go.RowKit

/-- the kind of a value: uint(v) % 3 -/
def kd (v : Int) : Int := (IntKind.u64.wrap v).tmod 3
/-- the slots as aorder lays them -/
def ordL (V : Nat → Int) : Nat → List Nat
  | 0 => []
  | s + 1 => if kd (V s) = 0 then ordL V s ++ [s] else if kd (V s) = 1 then s :: ordL V s else ordL V s
def cnt (q : Int) (V : Nat → Int) : Nat → Nat
  | 0 => 0
  | s + 1 => if kd (V s) = q then cnt q V s + 1 else cnt q V s
theorem cnt_mono (q : Int) (V : Nat → Int) (s : Nat) : ∀ d, cnt q V s ≤ cnt q V (s + d)
  | 0 => Nat.le_refl _
  | d + 1 => by
    have := cnt_mono q V s d
    have e : cnt q V (s + (d + 1)) = if kd (V (s + d)) = q then cnt q V (s + d) + 1 else cnt q V (s + d) := rfl
    rw [e]; split <;> omega
theorem cnt_le (q : Int) (V : Nat → Int) (s : Nat) : cnt q V s ≤ s := by
  induction s with
  | zero => exact Nat.le_refl _
  | succ s ih =>
    have e : cnt q V (s + 1) = if kd (V s) = q then cnt q V s + 1 else cnt q V s := rfl
    rw [e]; split <;> omega
theorem ordL_len (V : Nat → Int) (s : Nat) : (ordL V s).length = cnt 1 V s + cnt 0 V s := by
  induction s with
  | zero => rfl
  | succ s ih =>
    unfold ordL cnt
    by_cases h0 : kd (V s) = 0
    · rw [if_pos h0, if_neg (by omega), if_pos h0]; simp; omega
    · rw [if_neg h0, if_neg h0]
      by_cases h1 : kd (V s) = 1
      · rw [if_pos h1, if_pos h1]; simp; omega
      · rw [if_neg h1, if_neg h1]; exact ih
theorem ordL_mem (V : Nat → Int) (s : Nat) : ∀ x ∈ ordL V s, x < s ∧ kd (V x) ≠ 2 := by
  induction s with
  | zero => intro x hx; simp [ordL] at hx
  | succ s ih =>
    intro x hx
    unfold ordL at hx
    by_cases h0 : kd (V s) = 0
    · rw [if_pos h0] at hx
      rcases List.mem_append.1 hx with h | h
      · have := ih x h; exact ⟨by omega, this.2⟩
      · have : x = s := by simpa using h
        subst this; exact ⟨by omega, by omega⟩
    · rw [if_neg h0] at hx
      by_cases h1 : kd (V s) = 1
      · rw [if_pos h1] at hx
        rcases List.mem_cons.1 hx with h | h
        · subst h; exact ⟨by omega, by omega⟩
        · have := ih x h; exact ⟨by omega, this.2⟩
      · rw [if_neg h1] at hx
        have := ih x hx; exact ⟨by omega, this.2⟩
theorem ordL_nodup (V : Nat → Int) (s : Nat) : (ordL V s).Nodup := by
  induction s with
  | zero => exact List.nodup_nil
  | succ s ih =>
    have hs : s ∉ ordL V s := fun h => by have := (ordL_mem V s s h).1; omega
    unfold ordL
    by_cases h0 : kd (V s) = 0
    · rw [if_pos h0]
      refine List.nodup_append.2 ⟨ih, by simp, fun a ha b hb e => ?_⟩
      have : b = s := by simpa using hb
      subst this; subst e; exact hs ha
    · rw [if_neg h0]
      by_cases h1 : kd (V s) = 1
      · rw [if_pos h1]; exact List.nodup_cons.2 ⟨hs, ih⟩
      · rw [if_neg h1]; exact ih

/-- a fresh row of numbers -/
def RowPost (n : Nat) (f : Nat → Int) (w : World) (e : Ending) (w' : World) : Prop :=
  ∃ b cap, e = .returned (.slice (some ⟨b, 0, none⟩) n cap) ∧ RowAt w' b 3 1 n cap (icell f) ∧ w.heap.size ≤ b ∧ Keeps [] w w'

set_option maxHeartbeats 2000000 in
theorem aplus_at (w : World) (b off : Nat) (a : Option Addr) (n cap : Nat) (V : Nat → Int) (hE : InRow w b off a n 1 (fun j => .int .i64 (V j))) (hn : n ≤ 2000) :
    Calls Ydvm.prog 15 #[.slice a n cap] w (RowPost (n + 1) (part n V) w) := by
  have hn' : (n : Int) ≤ 2000 := by omega
  have hmk : ∀ W, (Instr.makeSlice 22 (.int .i64 ((n : Int) + 1)) (.int .i64 ((n : Int) + 1))).run Ydvm.prog W = _ := make_ints (n + 1) (by omega)
  have HE : Hid _ := hE
  clear hE
  go_enter Ydvm.func15, Ydvm.ntmps15
  go_wp2
  go_loopw [12] (fun i wr => ∃ k : Nat, k ≤ n ∧ i = .int .i64 k ∧ RowAt wr w.heap.size 3 1 (n + 1) (n + 1) (icell (part k V)) ∧ Keeps [] w wr) (fun i _ => n - (intOf i).toNat)
  case atStart =>
    have r := RowAt.madeInts w 3 (n + 1) V (by unfold maxLen; omega)
    rw [Nat.mul_one] at r
    exact ⟨0, by omega, rfl, r, (Keeps.refl _ _).alloc _⟩
  case round =>
    obtain ⟨k, hk, rfl, hR, hK⟩ := hrel
    by_cases hlt : k < n
    · have hlt' : (k : Int) < (n : Int) := by omega
      have hlt2 : (k : Int) < (n : Int) + 1 := by omega
      have E1 := HE.out.keeps hK (by simp)
      obtain rfl := E1.addr (by omega)
      have g0 := E1.cell k (by omega)
      have f0 := hR.ints k (by omega)
      have fz := hR.frozen
      have HR : Hid (RowAt wr w.heap.size 3 1 (n + 1) (n + 1) (icell (part k V)) ∧ Keeps [] w wr) := ⟨hR, hK⟩
      clear hR hK E1
      go_wp2
      go_roundw
      case rel => exact ⟨k + 1, by omega, by go_num, HR.out.1.stepInt _ rfl, HR.out.2.setCell _ _ (.inr (Nat.le_refl _))⟩
      case measure => simp [intOf]; omega
    · have hlt' : ¬ (k : Int) < (n : Int) := by omega
      obtain rfl : k = n := by omega
      go_wp2
      go_ret
      exact ⟨w.heap.size, k + 1, rfl, hR, Nat.le_refl _, hK⟩

set_option maxHeartbeats 2000000 in
theorem aorder_at (w : World) (b off : Nat) (a : Option Addr) (n cap : Nat) (V : Nat → Int) (hE : InRow w b off a n 1 (fun j => .int .i64 (V j))) (hn : n ≤ 2000) :
    Calls Ydvm.prog 16 #[.slice a n cap] w (RowPost (ordL V n).length (nth (ordL V n)) w) := by
  have hn' : (n : Int) ≤ 2000 := by omega
  have c1n := cnt_le 1 V n
  have c0n := cnt_le 0 V n
  have HE : Hid _ := hE
  clear hE
  go_enter Ydvm.func16, Ydvm.ntmps16
  go_wp2
  go_loopw [3, 4, 16] (fun f q i wr => ∃ s : Nat, s ≤ n ∧ i = .int .i64 s ∧ f = .int .i64 (cnt 1 V s : Nat) ∧ q = .int .i64 (cnt 0 V s : Nat) ∧ wr = w) (fun _ _ i _ => n - (intOf i).toNat)
  case atStart => exact ⟨0, by omega, rfl, rfl, rfl, rfl⟩
  case round =>
    obtain ⟨s, hs, rfl, rfl, rfl, rfl⟩ := hrel
    have k1 := cnt_le 1 V s
    have k0 := cnt_le 0 V s
    have m1 := cnt_mono 1 V s (n - s)
    have m0 := cnt_mono 0 V s (n - s)
    rw [show s + (n - s) = n by omega] at m1 m0
    by_cases hlt : s < n
    · have hlt' : (s : Int) < (n : Int) := by omega
      have E1 := HE.out
      obtain rfl := E1.addr (by omega)
      have g0 := E1.cell s (by omega)
      have e1 : cnt 1 V (s + 1) = if kd (V s) = 1 then cnt 1 V s + 1 else cnt 1 V s := rfl
      have e0 : cnt 0 V (s + 1) = if kd (V s) = 0 then cnt 0 V s + 1 else cnt 0 V s := rfl
      have HX : Hid _ := e1
      have HY : Hid _ := e0
      clear E1 e1 e0
      by_cases h0 : kd (V s) = 0
      · have hb : ((IntKind.u64.wrap (V s)).tmod 3 == 0) = true := beq_iff_eq.2 h0
        have HK : Hid (kd (V s) = 0) := h0
        clear h0
        go_wp2
        go_roundw
        case rel =>
          refine ⟨s + 1, by omega, by go_num, ?_, ?_, trivial⟩
          · rw [HX.out, if_neg (by rw [HK.out]; omega)]
          · rw [HY.out, if_pos HK.out]; go_num
        case measure => simp [intOf]; omega
      · have hb : ((IntKind.u64.wrap (V s)).tmod 3 == 0) = false := beq_eq_false_iff_ne.2 h0
        have HK : Hid (¬ kd (V s) = 0) := h0
        clear h0
        by_cases h1 : kd (V s) = 1
        · have hb : ((IntKind.u64.wrap (V s)).tmod 3 == 1) = true := beq_iff_eq.2 h1
          have HL : Hid (kd (V s) = 1) := h1
          clear h1
          go_wp2
          go_roundw
          case rel =>
            refine ⟨s + 1, by omega, by go_num, ?_, ?_, trivial⟩
            · rw [HX.out, if_pos HL.out]; go_num
            · rw [HY.out, if_neg HK.out]
          case measure => simp [intOf]; omega
        · have hb : ((IntKind.u64.wrap (V s)).tmod 3 == 1) = false := beq_eq_false_iff_ne.2 h1
          have HL : Hid (¬ kd (V s) = 1) := h1
          clear h1
          go_wp2
          go_roundw
          case rel =>
            refine ⟨s + 1, by omega, by go_num, ?_, ?_, trivial⟩
            · rw [HX.out, if_neg HL.out]
            · rw [HY.out, if_neg HK.out]
          case measure => simp [intOf]; omega
    · have hlt' : ¬ (s : Int) < (n : Int) := by omega
      obtain rfl : s = n := by omega
      have hmk : ∀ W, (Instr.makeSlice 22 (.int .i64 ((cnt 1 V s : Int) + (cnt 0 V s : Int))) (.int .i64 ((cnt 1 V s : Int) + (cnt 0 V s : Int)))).run Ydvm.prog W = _ := make_ints (cnt 1 V s + cnt 0 V s) (by omega)
      have hRow := RowAt.madeInts wr 3 (cnt 1 V s + cnt 0 V s) (fun _ => 0) (by unfold maxLen; omega)
      rw [Nat.mul_one] at hRow
      have HRow : Hid _ := hRow
      have HLen : Hid _ := ordL_len V s
      obtain ⟨F1, hF1⟩ : ∃ F1, F1 = cnt 1 V s := ⟨_, rfl⟩
      obtain ⟨F0, hF0⟩ : ∃ F0, F0 = cnt 0 V s := ⟨_, rfl⟩
      rw [← hF1, ← hF0] at hmk
      have HF : Hid (F1 = cnt 1 V s ∧ F0 = cnt 0 V s) := ⟨hF1, hF0⟩
      rw [← hF1, ← hF0]
      rw [← hF1, ← hF0] at HRow HLen
      rw [← hF1] at c1n
      rw [← hF0] at c0n
      have c1n' : (F1 : Int) ≤ (s : Int) := by omega
      have c0n' : (F0 : Int) ≤ (s : Int) := by omega
      clear hF1 hF0 hRow m1 m0 k1 k0
      go_wp2
      generalize wr = w at *
      go_loopw [9, 10, 40] (fun lo hi i wr => ∃ (t l : Nat) (g : Nat → Int), t ≤ s ∧ i = .int .i64 t ∧ lo = .int .i64 l ∧ l + cnt 1 V t = F1 ∧ hi = .int .i64 (F1 + cnt 0 V t : Nat) ∧ RowAt wr w.heap.size 3 1 (F1 + F0) (F1 + F0) (icell g) ∧ (∀ j x : Nat, (ordL V t)[j]? = some x → g (l + j) = x) ∧ Keeps [] w wr) (fun _ _ i _ => s - (intOf i).toNat)
      case atStart => exact ⟨0, F1, part 0 fun _ => 0, by omega, rfl, rfl, rfl, rfl, HRow.out, fun j x hx => by simp [ordL] at hx, (Keeps.refl _ _).alloc _⟩
      case round =>
        obtain ⟨t, l, g, ht, rfl, rfl, hl, rfl, hR, hg, hK⟩ := hrel
        by_cases hlt : t < s
        · have hlt2 : (t : Int) < (s : Int) := by omega
          have E1 := HE.out.keeps hK (by simp)
          obtain rfl := E1.addr (by omega)
          have g0 := E1.cell t (by omega)
          have e1 : cnt 1 V (t + 1) = if kd (V t) = 1 then cnt 1 V t + 1 else cnt 1 V t := rfl
          have e0 : cnt 0 V (t + 1) = if kd (V t) = 0 then cnt 0 V t + 1 else cnt 0 V t := rfl
          have eL : ordL V (t + 1) = if kd (V t) = 0 then ordL V t ++ [t] else if kd (V t) = 1 then t :: ordL V t else ordL V t := rfl
          have el := ordL_len V t
          have m1 := cnt_mono 1 V (t + 1) (s - (t + 1))
          have m0 := cnt_mono 0 V (t + 1) (s - (t + 1))
          rw [show t + 1 + (s - (t + 1)) = s by omega, ← HF.out.1] at m1
          rw [show t + 1 + (s - (t + 1)) = s by omega, ← HF.out.2] at m0
          have fz := hR.frozen
          by_cases h0 : kd (V t) = 0
          · have hb : ((IntKind.u64.wrap (V t)).tmod 3 == 0) = true := beq_iff_eq.2 h0
            rw [if_neg (by omega)] at e1
            rw [if_pos h0] at e0 eL
            obtain ⟨hi, hhi⟩ : ∃ hi : Nat, hi = F1 + cnt 0 V t := ⟨_, rfl⟩
            have hil : hi < F1 + F0 := by omega
            have hil' : (hi : Int) < (F1 : Int) + (F0 : Int) := by omega
            have f0 := hR.ints hi hil
            have fin : ∀ j x : Nat, (ordL V (t + 1))[j]? = some x → upd g hi t (l + j) = x := fun j x hx => by
              rw [eL] at hx
              by_cases hj : j < (ordL V t).length
              · rw [List.getElem?_append_left hj] at hx
                rw [upd_other _ _ _ _ (by omega)]; exact hg j x hx
              · have hjl : j < (ordL V t ++ [t]).length := (List.getElem?_eq_some_iff.1 hx).1
                simp at hjl
                obtain rfl : j = (ordL V t).length := by omega
                rw [List.getElem?_append_right (Nat.le_refl _)] at hx
                simp at hx
                subst hx
                rw [show l + (ordL V t).length = hi by omega, upd_same]
            have FIN : Hid (RowAt (wr.setCell ⟨w.heap.size, hi, none⟩ (.int .i64 (t : Int))) w.heap.size 3 1 (F1 + F0) (F1 + F0) (icell (upd g hi t)) ∧ (∀ j x : Nat, (ordL V (t + 1))[j]? = some x → upd g hi t (l + j) = x) ∧ Keeps [] w (wr.setCell ⟨w.heap.size, hi, none⟩ (.int .i64 (t : Int))) ∧ l + cnt 1 V (t + 1) = F1 ∧ hi + 1 = F1 + cnt 0 V (t + 1)) := ⟨hR.setInt hi t, fin, hK.setCell _ _ (.inr (Nat.le_refl _)), by omega, by omega⟩
            rw [← hhi]
            clear hR hg hK fin h0 e1 e0 eL el m1 m0 E1 hhi hl
            go_wp2
            go_roundw
            case rel => exact ⟨t + 1, l, _, by omega, by go_num, rfl, FIN.out.2.2.2.1, by rw [← FIN.out.2.2.2.2]; go_num, FIN.out.1, FIN.out.2.1, FIN.out.2.2.1⟩
            case measure => simp [intOf]; omega
          · have hb : ((IntKind.u64.wrap (V t)).tmod 3 == 0) = false := beq_eq_false_iff_ne.2 h0
            rw [if_neg h0] at e0 eL
            by_cases h1 : kd (V t) = 1
            · have hb1 : ((IntKind.u64.wrap (V t)).tmod 3 == 1) = true := beq_iff_eq.2 h1
              rw [if_pos h1] at e1 eL
              obtain ⟨p, rfl⟩ : ∃ p, l = p + 1 := ⟨l - 1, by omega⟩
              have hil : p < F1 + F0 := by omega
              have hil' : (p : Int) < (F1 : Int) + (F0 : Int) := by omega
              have f0 := hR.ints p hil
              have fin : ∀ j x : Nat, (ordL V (t + 1))[j]? = some x → upd g p t (p + j) = x := fun j x hx => by
                rw [eL] at hx
                cases j with
                | zero =>
                  simp at hx
                  subst hx
                  rw [Nat.add_zero, upd_same]
                | succ j =>
                  rw [List.getElem?_cons_succ] at hx
                  rw [upd_other _ _ _ _ (by omega), show p + (j + 1) = p + 1 + j by omega]; exact hg j x hx
              have FIN : Hid (RowAt (wr.setCell ⟨w.heap.size, p, none⟩ (.int .i64 (t : Int))) w.heap.size 3 1 (F1 + F0) (F1 + F0) (icell (upd g p t)) ∧ (∀ j x : Nat, (ordL V (t + 1))[j]? = some x → upd g p t (p + j) = x) ∧ Keeps [] w (wr.setCell ⟨w.heap.size, p, none⟩ (.int .i64 (t : Int))) ∧ p + cnt 1 V (t + 1) = F1 ∧ cnt 0 V (t + 1) = cnt 0 V t) := ⟨hR.setInt p t, fin, hK.setCell _ _ (.inr (Nat.le_refl _)), by omega, e0⟩
              clear hR hg hK fin h0 h1 e1 e0 eL el m1 m0 E1 hl
              go_wp2
              go_roundw
              case rel => exact ⟨t + 1, p, _, by omega, by go_num, by go_num, FIN.out.2.2.2.1, by rw [FIN.out.2.2.2.2], FIN.out.1, FIN.out.2.1, FIN.out.2.2.1⟩
              case measure => simp [intOf]; omega
            · have hb1 : ((IntKind.u64.wrap (V t)).tmod 3 == 1) = false := beq_eq_false_iff_ne.2 h1
              rw [if_neg h1] at e1 eL
              have FIN : Hid (RowAt wr w.heap.size 3 1 (F1 + F0) (F1 + F0) (icell g) ∧ (∀ j x : Nat, (ordL V (t + 1))[j]? = some x → g (l + j) = x) ∧ Keeps [] w wr ∧ l + cnt 1 V (t + 1) = F1 ∧ cnt 0 V (t + 1) = cnt 0 V t) := ⟨hR, by rw [eL]; exact hg, hK, by omega, e0⟩
              clear hR hg hK h0 h1 e1 e0 eL el m1 m0 E1 hl
              go_wp2
              go_roundw
              case rel => exact ⟨t + 1, l, _, by omega, by go_num, rfl, FIN.out.2.2.2.1, by rw [FIN.out.2.2.2.2], FIN.out.1, FIN.out.2.1, FIN.out.2.2.1⟩
              case measure => simp [intOf]; omega
        · have hlt2 : ¬ (t : Int) < (s : Int) := by omega
          obtain rfl : t = s := by omega
          have hl0 : l = 0 := by have := HF.out.1; omega
          have R : RowAt wr w.heap.size 3 1 (F1 + F0) (F1 + F0) (icell (nth (ordL V t))) := hR.congr fun j hj => by
            unfold icell
            have hjl : j < (ordL V t).length := by rw [HLen.out]; omega
            have := hg j _ (List.getElem?_eq_getElem hjl)
            rw [hl0, Nat.zero_add] at this
            rw [this, nth_lt hjl]
          have FIN : Hid (RowAt wr w.heap.size 3 1 (F1 + F0) (F1 + F0) (icell (nth (ordL V t))) ∧ Keeps [] w wr) := ⟨R, hK⟩
          clear R hR hK hg
          go_wp2
          go_ret
          unfold RowPost
          rw [HLen.out]
          exact ⟨w.heap.size, F1 + F0, rfl, FIN.out.1, Nat.le_refl _, FIN.out.2⟩
end Go.Proofs.Ymbrdv
