/- The walk of a script player. -/
import Derived.Test.YmbrdwScript
namespace Go.Proofs.Ymbrdw
open Go.RowKit

set_option maxHeartbeats 2000000 in
theorem gbuild_at (w : World) (cap : Int) (b off : Nat) (a : Option Addr) (len scap : Nat) (z : Nat → Nat → Int) (hS : Script w b off a len z) (hl : len ≤ 100000) :
    Calls Ydwm.prog 24 #[.int .i64 cap, .slice a len scap] w (BuildPost (max cap 0) len (splay 6 3 4 5 (max cap 0) z [] len) w) := by
  have hl' : (len : Int) ≤ 100000 := by omega
  have HS : Hid (Script w b off a len z) := hS
  clear hS
  go_enter Ydwm.func24, Ydwm.ntmps24
  go_wp2_with fail
  refine (New_held cap w).mono ?_
  rintro e w1 ⟨rfl, H1, K1, S1⟩
  go_wp2
  go_loopw [12] (fun i wr => ∃ k nb : Nat, ∃ c : Cs, k ≤ len ∧ i = .int .i64 k ∧ Held wr w.heap.size nb c k (max cap 0) (splay 6 3 4 5 (max cap 0) z [] k) ∧ w.heap.size ≤ nb ∧ Keeps [] w wr) (fun i _ => len - (intOf i).toNat)
  case atStart => exact ⟨0, _, _, by omega, rfl, H1, Nat.le_refl _, K1⟩
  case round =>
    obtain ⟨k, nb, c, hk, rfl, HC, hnb, hK⟩ := hrel
    clear H1 K1
    by_cases hlt : k < len
    · have hlt' : (k : Int) < (len : Int) := by omega
      have S2 := HS.out.keeps hK (by simp)
      obtain rfl := S2.1.addr (by omega)
      have hblt := S2.1.lt (by omega)
      obtain ⟨g0, g1, g2⟩ := instr3 S2.1 k hlt
      obtain ⟨b0, b1⟩ := S2.2 k hlt
      have hsz := hK.size
      have hcl := HC.lt
      have hcn := HC.nlt
      generalize ho : z k 0 = o at *
      generalize hk1 : z k 1 = ky at *
      generalize hv1 : z k 2 = vl at *
      have HI : Hid (Held wr w.heap.size nb c k (max cap 0) (splay 6 3 4 5 (max cap 0) z [] k) ∧ Keeps [] w wr ∧ z k 0 = o ∧ z k 1 = ky ∧ z k 2 = vl) := ⟨HC, hK, ho, hk1, hv1⟩
      clear HC hK S2 ho hk1 hv1
      obtain ⟨r, hr⟩ : ∃ r, r = o % 6 := ⟨_, rfl⟩
      have hr0 : 0 ≤ r := by omega
      have hr1 : r < 6 := by omega
      have hor : o % 6 = r := hr.symm
      by_cases h3 : r = 3
      · have HR : Hid (o % 6 = 3) := by rw [hor]; exact h3
        subst h3
        clear hr
        go_wp2_with fail
        refine (Get_held ky (HI.out.1.alloc _) (by omega)).mono ?_
        rintro e w2 ⟨rfl, H2, K2⟩
        have RN : Hid (Held w2 w.heap.size nb (c.get ky) k (max cap 0) (mget (splay 6 3 4 5 (max cap 0) z [] k) ky) ∧ w.heap.size ≤ nb ∧ Keeps [] w w2) := ⟨H2, hnb, (HI.out.2.1.alloc _).trans K2 (by simp; omega)⟩
        clear H2 K2
        go_wp2
        go_roundw
        case rel =>
          refine ⟨k + 1, nb, (c.get ky), by omega, by go_num, ?_, RN.out.2.1, RN.out.2.2⟩
          have e : (splay 6 3 4 5 (max cap 0) z [] (k + 1)) = (mget (splay 6 3 4 5 (max cap 0) z [] k) ky) := by
            show sstep 6 3 4 5 _ _ (z k 0) (z k 1) (z k 2) = _
            rw [HI.out.2.2.1, HI.out.2.2.2.1, HI.out.2.2.2.2]; unfold sstep; rw [if_pos HR.out]
          rw [e]; exact RN.out.1.mono (by omega)
        case measure => simp [intOf]; omega
      · by_cases h4 : r = 4
        · have HR : Hid (o % 6 = 4) := by rw [hor]; exact h4
          subst h4
          clear hr
          go_wp2_with fail
          refine (Remove_held ky (HI.out.1.alloc _) (by omega)).mono ?_
          rintro e w2 ⟨rfl, H2, K2⟩
          have RN : Hid (Held w2 w.heap.size nb (c.remove ky) k (max cap 0) (mremove (splay 6 3 4 5 (max cap 0) z [] k) ky) ∧ w.heap.size ≤ nb ∧ Keeps [] w w2) := ⟨H2, hnb, (HI.out.2.1.alloc _).trans K2 (by simp; omega)⟩
          clear H2 K2
          go_wp2
          go_roundw
          case rel =>
            refine ⟨k + 1, nb, (c.remove ky), by omega, by go_num, ?_, RN.out.2.1, RN.out.2.2⟩
            have e : (splay 6 3 4 5 (max cap 0) z [] (k + 1)) = (mremove (splay 6 3 4 5 (max cap 0) z [] k) ky) := by
              show sstep 6 3 4 5 _ _ (z k 0) (z k 1) (z k 2) = _
              rw [HI.out.2.2.1, HI.out.2.2.2.1, HI.out.2.2.2.2]; unfold sstep; rw [if_neg (by rw [HR.out]; omega), if_pos HR.out]
            rw [e]; exact RN.out.1.mono (by omega)
          case measure => simp [intOf]; omega
        · by_cases h5 : r = 5
          · have HR : Hid (o % 6 = 5) := by rw [hor]; exact h5
            subst h5
            clear hr
            go_wp2_with fail
            refine (Evict_held (HI.out.1.alloc _) (by omega)).mono ?_
            rintro e w2 ⟨rfl, H2, K2⟩
            have RN : Hid (Held w2 w.heap.size nb c.evict k (max cap 0) ((splay 6 3 4 5 (max cap 0) z [] k)).dropLast ∧ w.heap.size ≤ nb ∧ Keeps [] w w2) := ⟨H2, hnb, (HI.out.2.1.alloc _).trans K2 (by simp; omega)⟩
            clear H2 K2
            go_wp2
            go_roundw
            case rel =>
              refine ⟨k + 1, nb, c.evict, by omega, by go_num, ?_, RN.out.2.1, RN.out.2.2⟩
              have e : (splay 6 3 4 5 (max cap 0) z [] (k + 1)) = ((splay 6 3 4 5 (max cap 0) z [] k)).dropLast := by
                show sstep 6 3 4 5 _ _ (z k 0) (z k 1) (z k 2) = _
                rw [HI.out.2.2.1, HI.out.2.2.2.1, HI.out.2.2.2.2]; unfold sstep; rw [if_neg (by rw [HR.out]; omega), if_neg (by rw [HR.out]; omega), if_pos HR.out]
              rw [e]; exact RN.out.1.mono (by omega)
            case measure => simp [intOf]; omega
          · have HR : Hid (¬ o % 6 = 3 ∧ ¬ o % 6 = 4 ∧ ¬ o % 6 = 5) := by rw [hor]; exact ⟨h3, h4, h5⟩
            have hb3 : (r == 3) = false := beq_eq_false_iff_ne.2 h3
            have hb4 : (r == 4) = false := beq_eq_false_iff_ne.2 h4
            have hb5 : (r == 5) = false := beq_eq_false_iff_ne.2 h5
            clear hr h3 h4 h5
            go_wp2_with fail
            refine (Put_held ky vl (HI.out.1.alloc _) (by omega)).mono ?_
            rintro e w2 ⟨rfl, nb2, H2, hb2, K2⟩
            have RN : Hid (Held w2 w.heap.size nb2 (c.put ky vl) (k + 1) (max cap 0) (mput (max cap 0) (splay 6 3 4 5 (max cap 0) z [] k) ky vl) ∧ w.heap.size ≤ nb2 ∧ Keeps [] w w2) := ⟨H2, (by simp at hb2; omega), (HI.out.2.1.alloc _).trans K2 (by simp; omega)⟩
            clear H2 K2 hb2
            go_wp2
            go_roundw
            case rel =>
              refine ⟨k + 1, nb2, (c.put ky vl), by omega, by go_num, ?_, RN.out.2.1, RN.out.2.2⟩
              have e : (splay 6 3 4 5 (max cap 0) z [] (k + 1)) = (mput (max cap 0) (splay 6 3 4 5 (max cap 0) z [] k) ky vl) := by
                show sstep 6 3 4 5 _ _ (z k 0) (z k 1) (z k 2) = _
                rw [HI.out.2.2.1, HI.out.2.2.2.1, HI.out.2.2.2.2]; unfold sstep; rw [if_neg HR.out.1, if_neg HR.out.2.1, if_neg HR.out.2.2]
              rw [e]; exact RN.out.1.mono (by omega)
            case measure => simp [intOf]; omega
    · have hlt' : ¬ (k : Int) < (len : Int) := by omega
      obtain rfl : k = len := by omega
      go_wp2
      go_ret
      exact ⟨nb, c, rfl, HC, hnb, hK⟩
end Go.Proofs.Ymbrdw
