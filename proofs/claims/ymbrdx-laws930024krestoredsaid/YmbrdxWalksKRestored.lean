/- The law KRestored: her walk. -/
import Derived.Test.YmbrdxBuildK
import Derived.Test.YmbrdxLists
namespace Go.Proofs.Ymbrdx
open Go.RowKit

theorem splay_vals {P : Int → Prop} {m g r e cap : Int} {z : Nat → Nat → Int} : ∀ n, (∀ i, i < n → P (z i 2)) → ∀ x ∈ splay m g r e cap z [] n, P x.2
  | 0, _, x, hx => by simp [splay] at hx
  | n + 1, h, x, hx => by
    have ih := splay_vals (m := m) (g := g) (r := r) (e := e) (cap := cap) n (fun i hi => h i (by omega))
    have hn := h n (by omega)
    unfold splay sstep at hx
    generalize splay m g r e cap z [] n = M at *
    split at hx
    · unfold mget at hx
      split at hx
      · next k hk =>
        obtain ⟨y, hy, _⟩ := idx_some hk
        rw [List.getD_eq_getElem?_getD, hy] at hx
        rcases List.mem_cons.1 hx with h1 | h1
        · rw [h1]; exact ih _ (List.mem_of_getElem? hy)
        · exact ih _ (List.mem_of_mem_eraseIdx h1)
      · exact ih _ hx
    · split at hx
      · unfold mremove at hx
        split at hx
        · exact ih _ (List.mem_of_mem_eraseIdx hx)
        · exact ih _ hx
      · split at hx
        · exact ih _ ((List.dropLast_sublist _).subset hx)
        · unfold mput at hx
          split at hx
          · exact ih _ hx
          · split at hx
            · rcases List.mem_cons.1 hx with h1 | h1
              · rw [h1]; exact hn
              · exact ih _ (List.mem_of_mem_eraseIdx h1)
            · rcases List.mem_cons.1 hx with h1 | h1
              · rw [h1]; exact hn
              · split at h1
                · exact ih _ ((List.dropLast_sublist _).subset h1)
                · exact ih _ h1

theorem wrap_same {v d : Int} (h0 : -9223372036854775808 ≤ v ∧ v ≤ 9223372036854775807) (h1 : -9223372036854775808 ≤ d ∧ d ≤ 9223372036854775807) : wrap64 (v + d) = v ↔ d = 0 := by
  unfold wrap64; omega

theorem moved_same {M : List (Int × Int)} {k : Nat} (hk : k < M.length) (v : Int) : M = elist M.length (eK M) (upd (eV M) k v) ↔ v = eV M k := by
  constructor
  · intro h
    have := (elist_kv M.length (eK M) (upd (eV M) k v) k hk).2
    rw [← h] at this
    rw [this]; simp [upd]
  · intro h
    subst h
    rw [show upd (eV M) k (eV M k) = eV M from funext fun j => by unfold upd; split <;> simp_all]
    exact (elist_eKV M).symm

set_option maxRecDepth 100000 in
set_option maxHeartbeats 4000000 in
theorem walk_KRestored (w : World) (a0 : Int) (w0 : (Lit.int .u8 a0).wf = true) (a2 : Option Addr) (len cap : Nat) (z : Nat → Nat → Int) (hz : InStr [.u8, .i64, .i64] w a2 len z) (at_ : Int) (w1 : (Lit.int .u16 at_).wf = true) (d : Int) (w2 : (Lit.int .i64 d).wf = true) :
    Calls Ydxm.prog 10 #[.int .u8 a0, .slice a2 len cap, .int .u16 at_, .int .i64 d] w fun e w' => e = .returned (.bool true) ∧ Below w.heap.size w w' := by
  by_cases hbig : 256 < len
  · have hbig' : (256 : Int) < (len : Int) := by omega
    go_enter Ydxm.func10, Ydxm.ntmps10
    go_wp2
    go_ret
    exact ⟨rfl, Below.refl _ _⟩
  have hlen : (len : Int) ≤ 256 := by omega
  have hvals := splay_vals (P := fun v => -9223372036854775808 ≤ v ∧ v ≤ 9223372036854775807) (m := 6) (g := 3) (r := 4) (e := 5) (cap := a0) (z := z) len (fun i hi => wf_i64 (hz.2 i 2 hi (by decide)))
  obtain ⟨b, off, hS⟩ := Script.of hz
  obtain ⟨h00, h01⟩ := wf_u8 w0
  obtain ⟨h10, h11⟩ := wf_u16 w1
  have hdr := wf_i64 w2
  have hsb : 0 < len → b < w.heap.size := fun h => hS.1.lt h
  have hmx : max a0 0 = a0 := by omega
  have hmy : max (a0 + 1) 0 = a0 + 1 := by omega
  clear hz w0 w1 w2
  have HV : Hid ((∀ x ∈ splay 6 3 4 5 a0 z [] len, -9223372036854775808 ≤ x.2 ∧ x.2 ≤ 9223372036854775807) ∧ (-9223372036854775808 ≤ d ∧ d ≤ 9223372036854775807)) := ⟨hvals, hdr⟩
  clear hvals hdr
  go_enter Ydxm.func10, Ydxm.ntmps10
  go_wp2_with fail
  refine (New_held a0 w).mono ?_
  rintro e w1 ⟨rfl, H1, K1, S1⟩
  rw [hmx] at H1
  have hs1 : w.heap.size < w1.heap.size := by omega
  clear S1
  go_wp2_with fail
  refine (krun_at w1 _ _ 0 _ a0 [] b off a2 len cap z H1 (hS.keeps K1 (by simp)) (by omega) (fun h => by have := hsb h; omega)).mono ?_
  rintro e w2 ⟨nb, c2, rfl, H2, hn2, K2⟩
  have KA := K1.trans K2 (cs := [w.heap.size, w.heap.size]) (bs := []) (by simp)
  generalize splay 6 3 4 5 a0 z [] len = M at *
  have hMl := H2.len_le
  have hMc := H2.len_cap
  have hnd := nodup_distinct H2.nodup
  have hcl := H2.lt
  have hcn := H2.nlt
  clear K1 K2 hS H1
  go_wp2_with fail
  refine (Order_held H2 (by omega)).mono ?_
  rintro e w3 ⟨b3, ec3, rfl, R3, hb3, K3⟩
  have C3 := H2.keeps K3 (by simp) (by simp)
  have s3 := K3.size
  have hcb3 : w.heap.size ≠ b3 ∧ nb ≠ b3 := by omega
  go_wp2_with fail
  refine (Restore_held a0 b3 0 _ M.length ec3 (eK M) (eV M) w3 R3.inRow (by omega)).mono ?_
  rintro e w4 ⟨K4, cb, mb, hcb, hmb, h | h⟩
  case inr => exact absurd ⟨by rw [hmx]; exact hMc, hnd⟩ h.2.1
  obtain ⟨rfl, _, _, dd, D4, _⟩ := h
  rw [elist_eKV, hmx] at D4
  have C4 := C3.keeps K4 (by simp) (by simp)
  have R4 := R3.keeps K4 (by simp)
  have KB := (KA.trans K3 (cs := []) (bs := []) (by simp)).trans K4 (cs := []) (bs := []) (by simp)
  clear C3 R3 KA K3 K4 H2
  go_wp2_with fail
  refine (Equal_held C4 D4 (by omega)).mono ?_
  rintro e w5 ⟨rfl, K5⟩
  have C5 := C4.keeps K5 (by simp) (by simp)
  have D5 := D4.keeps K5 (by simp) (by simp)
  have R5 := R4.keeps K5 (by simp)
  simp only [and_self, decide_true]
  go_wp2_with fail
  refine (Equal_held D5 C5 (by omega)).mono ?_
  rintro e w6 ⟨rfl, K6⟩
  have C6 := C5.keeps K6 (by simp) (by simp)
  have R6 := R5.keeps K6 (by simp)
  have KC := (KB.trans K5 (cs := []) (bs := []) (by simp)).trans K6 (cs := []) (bs := []) (by simp)
  clear C4 D4 C5 D5 R4 R5 K5 K6 KB
  simp only [and_self, decide_true]
  go_wp2_with fail
  refine (Restore_held (a0 + 1) b3 0 _ M.length ec3 (eK M) (eV M) w6 R6.inRow (by omega)).mono ?_
  rintro e w7 ⟨K7, cb7, mb7, hcb7, hmb7, h | h⟩
  case inr => exact absurd ⟨by rw [hmy]; omega, hnd⟩ h.2.1
  obtain ⟨rfl, _, _, d7, D7, _⟩ := h
  rw [elist_eKV, hmy] at D7
  have C7 := C6.keeps K7 (by simp) (by simp)
  have R7 := R6.keeps K7 (by simp)
  have KD := KC.trans K7 (cs := []) (bs := []) (by simp)
  clear C6 R6 KC K7
  go_wp2_with fail
  refine (Equal_held C7 D7 (by omega)).mono ?_
  rintro e w8 ⟨rfl, K8⟩
  have C8 := C7.keeps K8 (by simp) (by simp)
  have D8 := D7.keeps K8 (by simp) (by simp)
  have R8 := R7.keeps K8 (by simp)
  rw [show decide (a0 = a0 + 1 ∧ M = M) = false from decide_eq_false (fun h => by have := h.1; omega)]
  go_wp2_with fail
  refine (Equal_held D8 C8 (by omega)).mono ?_
  rintro e w9 ⟨rfl, K9⟩
  have C9 := C8.keeps K9 (by simp) (by simp)
  have R9 := R8.keeps K9 (by simp)
  have KE := (KD.trans K8 (cs := []) (bs := []) (by simp)).trans K9 (cs := []) (bs := []) (by simp)
  rw [show decide (a0 + 1 = a0 ∧ M = M) = false from decide_eq_false (fun h => by have := h.1; omega)]
  clear C7 D7 R7 K8 C8 D8 R8 K9 KD
  have s9 := KE.size
  by_cases hM0 : M.length = 0
  · rw [hM0]
    go_wp2
    go_ret
    exact ⟨rfl, KE.below (Nat.le_refl _) (by simp)⟩
  · obtain ⟨k, hk⟩ : ∃ k : Nat, (k : Int) = at_ % (M.length : Int) := ⟨(at_ % (M.length : Int)).toNat, Int.toNat_of_nonneg (Int.emod_nonneg _ (by omega))⟩
    have hkl : k < M.length := by have := Int.emod_lt_of_pos at_ (show (0 : Int) < (M.length : Int) by omega); omega
    have hkl' : (k : Int) < (M.length : Int) := by omega
    have hM0' : ((M.length : Int) == 0) = false := beq_eq_false_iff_ne.2 (by omega)
    obtain ⟨r0, r1⟩ := R9.ents k hkl
    have hfr := R9.frozen (k * 2 + 1)
    have hMi : (M.length : Int) ≤ 256 := by omega
    have hb9 := R9.lt
    have HI : Hid (Held w9 w.heap.size nb c2 (0 + len) a0 M ∧ RowAt w9 b3 26 2 M.length ec3 (ecell (eK M) (eV M)) ∧ Keeps [] w w9 ∧ (k : Int) = at_ % (M.length : Int)) := ⟨C9, R9, KE, hk⟩
    clear C9 R9 KE
    rw [eq_comm] at hk
    go_wp2_with fail
    have hv : wrap64 (eV M k + d) = eV M k ↔ d = 0 := wrap_same (by have := HV.out.1 M[k] (List.getElem_mem hkl); rw [← eKV_get hkl] at this; exact this) HV.out.2
    have KX : Keeps [b3] w9 (w9.setCell ⟨b3, k * 2 + 1, none⟩ (.int .i64 (wrap64 (eV M k + d)))) := (Keeps.refl [b3] _).setCell _ _ (.inl (by simp))
    have R10 : RowAt (w9.setCell ⟨b3, k * 2 + 1, none⟩ (.int .i64 (wrap64 (eV M k + d)))) b3 26 2 M.length ec3 (ecell (eK M) (upd (eV M) k (wrap64 (eV M k + d)))) := (HI.out.2.1.set _ _).congr (fun j _ => ecell_set1 _ _ k _ j)
    have C10 := HI.out.1.keeps KX (by simp; omega) (by simp; omega)
    have KF := HI.out.2.2.1.trans KX (cs := [b3]) (bs := []) (by simp; omega)
    have hms := (moved_same hkl (wrap64 (eV M k + d))).trans hv
    generalize w9.setCell ⟨b3, k * 2 + 1, none⟩ (.int .i64 (wrap64 (eV M k + d))) = w10 at *
    refine (Restore_held a0 b3 0 _ M.length ec3 (eK M) (upd (eV M) k (wrap64 (eV M k + d))) w10 R10.inRow (by omega)).mono ?_
    rintro e w11 ⟨K11, cb11, mb11, hcb11, hmb11, h | h⟩
    case inr => exact absurd ⟨by rw [hmx]; exact hMc, hnd⟩ h.2.1
    obtain ⟨rfl, _, _, d11, D11, _⟩ := h
    rw [hmx] at D11
    have C11 := C10.keeps K11 (by simp) (by simp)
    have KG := KF.trans K11 (cs := []) (bs := []) (by simp)
    generalize elist M.length (eK M) (upd (eV M) k (wrap64 (eV M k + d))) = M2 at *
    clear hv KX R10 C10 KF K11 HI
    have HM : Hid (M = M2 ↔ d = 0) := hms
    clear hms
    go_wp2_with fail
    refine (Equal_held C11 D11 (by omega)).mono ?_
    rintro e w12 ⟨rfl, K12⟩
    have C12 := C11.keeps K12 (by simp) (by simp)
    have D12 := D11.keeps K12 (by simp) (by simp)
    have KH := KG.trans K12 (cs := []) (bs := []) (by simp)
    clear C11 D11 K12 KG
    rw [show decide (a0 = a0 ∧ M = M2) = decide (d = 0) by rw [decide_eq_decide]; simp [HM.out]]
    by_cases hd0 : d = 0
    all_goals
      first | rw [decide_eq_true hd0] | rw [decide_eq_false hd0]
      first | subst hd0 | have hd1 : (d == 0) = false := beq_eq_false_iff_ne.2 hd0
      go_wp2_with fail
      refine (Equal_held D12 C12 (by omega)).mono ?_
      rintro e w13 ⟨rfl, K13⟩
      have KI := KH.trans K13 (cs := []) (bs := []) (by simp)
    · rw [show decide (a0 = a0 ∧ M2 = M) = true by rw [decide_eq_true_iff]; exact ⟨rfl, (HM.out.2 (by first | rfl | trivial)).symm⟩]
      go_wp2
      go_ret
      exact ⟨rfl, KI.below (Nat.le_refl _) (by simp)⟩
    · rw [show decide (a0 = a0 ∧ M2 = M) = false by rw [decide_eq_false_iff_not]; exact fun h => hd0 (HM.out.1 h.2.symm)]
      go_wp2
      go_ret
      exact ⟨rfl, KI.below (Nat.le_refl _) (by simp)⟩
end Go.Proofs.Ymbrdx
