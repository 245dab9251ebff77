/- The law KOrder: her walk. -/
import Derived.Test.YmbrdxBuildK
import Derived.Test.YmbrdxSame
import Derived.Test.YmbrdxLists
namespace Go.Proofs.Ymbrdx
open Go.RowKit

theorem same_refl (n : Nat) (K V : Nat → Int) : SameEnts n K V n K V := ⟨rfl, fun _ _ => ⟨rfl, rfl⟩⟩
theorem same_lists {M M' : List (Int × Int)} : SameEnts M.length (eK M) (eV M) M'.length (eK M') (eV M') ↔ M = M' :=
  ⟨fun h => list_ext_kv h.1 h.2, fun h => by subst h; exact same_refl _ _ _⟩

set_option maxRecDepth 100000 in
set_option maxHeartbeats 4000000 in
theorem walk_KOrder (w : World) (a0 : Int) (w0 : (Lit.int .u8 a0).wf = true) (a1 : Int) (w1 : (Lit.int .u8 a1).wf = true) (a2 : Option Addr) (len cap : Nat) (z : Nat → Nat → Int) (hz : InStr [.u8, .i64, .i64] w a2 len z) (a3 : Option Addr) (len2 cap2 : Nat) (z2 : Nat → Nat → Int) (hz2 : InStr [.u8, .i64, .i64] w a3 len2 z2) :
    Calls Ydxm.prog 9 #[.int .u8 a0, .int .u8 a1, .slice a2 len cap, .slice a3 len2 cap2] w fun e w' => e = .returned (.bool true) ∧ Below w.heap.size w w' := by
  by_cases hbig : 256 < len
  · have hbig' : (256 : Int) < (len : Int) := by omega
    go_enter Ydxm.func9, Ydxm.ntmps9
    go_wp2
    go_ret
    exact ⟨rfl, Below.refl _ _⟩
  have hlen : (len : Int) ≤ 256 := by omega
  by_cases hbig2 : 256 < len2
  · have hbig' : (256 : Int) < (len2 : Int) := by omega
    go_enter Ydxm.func9, Ydxm.ntmps9
    go_wp2
    go_ret
    exact ⟨rfl, Below.refl _ _⟩
  have hlen2 : (len2 : Int) ≤ 256 := by omega
  obtain ⟨b, off, hS⟩ := Script.of hz
  obtain ⟨b', off', hS'⟩ := Script.of hz2
  obtain ⟨h00, h01⟩ := wf_u8 w0
  obtain ⟨h10, h11⟩ := wf_u8 w1
  have hsb : 0 < len → b < w.heap.size := fun h => hS.1.lt h
  have hsb' : 0 < len2 → b' < w.heap.size := fun h => hS'.1.lt h
  clear hz hz2 w0 w1
  have main : ∀ capD : Int, (if a1 % 4 = 3 then a0 + 1 else a0) = capD →
      Calls Ydxm.prog 9 #[.int .u8 a0, .int .u8 a1, .slice a2 len cap, .slice a3 len2 cap2] w fun e w' => e = .returned (.bool true) ∧ Below w.heap.size w w' := by
    intro capD hD
    have hmx : max a0 0 = a0 := by omega
    have hmd : max capD 0 = capD := by split at hD <;> omega
    have HD : Hid ((if a1 % 4 = 3 then a0 + 1 else a0) = capD) := hD
    by_cases hw : a1 % 4 = 3
    all_goals
      first | rw [if_pos hw] at hD | rw [if_neg hw] at hD
      try subst hD
      go_enter Ydxm.func9, Ydxm.ntmps9
      go_wp2_with fail
      refine (New_held a0 w).mono ?_
      rintro e w1 ⟨rfl, H1, K1, S1⟩
      rw [hmx] at H1
      have hs1 : w.heap.size < w1.heap.size := by omega
      clear S1
      go_wp2_with fail
      refine (New_held _ w1).mono ?_
      rintro e w2 ⟨rfl, H2, K2, S2⟩
      rw [hmd] at H2
      have hs2 : w1.heap.size < w2.heap.size := by omega
      clear S2
      generalize w1.heap.size = db at *
      have H1' := H1.keeps K2 (by simp) (by simp)
      have KA := K1.trans K2 (cs := []) (bs := []) (by simp)
      go_wp2_with fail
      refine (krun_at w2 _ _ 0 _ a0 [] b off a2 len cap z H1' (hS.keeps KA (by simp)) (by omega) (fun h => by have := hsb h; omega)).mono ?_
      rintro e w3 ⟨nb3, c3, rfl, H3, hn3, K3⟩
      have KB := KA.trans K3 (cs := [w.heap.size, w.heap.size]) (bs := []) (by simp)
      have D3 := H2.keeps K3 (by simp; omega) (by simp; omega)
      have s3 := K3.size
      have hn3' := H3.nlt
      go_wp2_with fail
      refine (krun_at w3 _ _ 0 _ _ [] b off a2 len cap z D3 (hS.keeps KB (by simp)) (by omega) (fun h => by have := hsb h; omega)).mono ?_
      rintro e w4 ⟨nb4, c4, rfl, D4, hn4, K4⟩
      have C4 := H3.keeps K4 (by simp; omega) (by simp; omega)
      have KC := KB.trans K4 (cs := [db, db]) (bs := []) (by simp; omega)
      have s4 := K4.size
      go_wp2_with fail
      refine (krun_at w4 _ _ _ _ _ _ b' off' a3 len2 cap2 z2 D4 (hS'.keeps KC (by simp)) (by omega) (fun h => by have := hsb' h; omega)).mono ?_
      rintro e w5 ⟨nb5, c5, rfl, D5, hn5, K5⟩
      have C5 := C4.keeps K5 (by simp; omega) (by simp; omega)
      have KD := KC.trans K5 (cs := [db, nb4]) (bs := []) (by simp; omega)
      generalize splay 6 3 4 5 a0 z [] len = M at *
      have hMl := C5.len_le
      have hDl := D5.len_le
      generalize splay 6 3 4 5 _ z2 _ len2 = M' at *
      have s5 := K5.size
      clear hS hS' H1 H2 K1 K2 H1' KA K3 D3 H3 K4 D4 C4 KB KC K5
      have hc5 := C5.lt
      have hd5 := D5.lt
      have hcn5 := C5.nlt
      have hdn5 := D5.nlt
      go_wp2_with fail
      refine (Order_held C5 (by omega)).mono ?_
      rintro e w6 ⟨b6, ec6, rfl, R6, hb6, K6⟩
      have C6 := C5.keeps K6 (by simp) (by simp)
      have D6 := D5.keeps K6 (by simp) (by simp)
      go_wp2_with fail
      refine (Order_held D6 (by omega)).mono ?_
      rintro e w7 ⟨b7, ec7, rfl, R7, hb7, K7⟩
      have C7 := C6.keeps K7 (by simp) (by simp)
      have D7 := D6.keeps K7 (by simp) (by simp)
      have R6' := R6.keeps K7 (by simp)
      have KE := (KD.trans K6 (cs := []) (bs := []) (by simp)).trans K7 (cs := []) (bs := []) (by simp)
      clear KD K6 K7 C5 C6 D5 D6 R6
    · have hne : (a0 == a0 + 1) = false := beq_eq_false_iff_ne.2 (by omega)
      have C8 := C7
      have D8 := D7
      have R8 := R6'
      have Q8 := R7
      have KF := KE
      clear C7 D7 R6' R7 KE
      go_wp2_with fail
      refine (Equal_held C8 D8 (by omega)).mono ?_
      rintro e w9 ⟨rfl, K9⟩
      have C9 := C8.keeps K9 (by simp) (by simp)
      have D9 := D8.keeps K9 (by simp) (by simp)
      have hdd : decide (a0 = a0 + 1 ∧ M = M') = false := decide_eq_false (fun h => by have := h.1; omega)
      rw [hdd]
      go_wp2_with fail
      refine (Equal_held D9 C9 (by omega)).mono ?_
      rintro e w10 ⟨rfl, K10⟩
      have C10 := C9.keeps K10 (by simp) (by simp)
      have D10 := D9.keeps K10 (by simp) (by simp)
      have KX := K9.trans K10 (cs := []) (bs := []) (by simp)
      have R10 := R8.keeps KX (by simp)
      have Q10 := Q8.keeps KX (by simp)
      have KG := KF.trans KX (cs := []) (bs := []) (by simp)
      clear K9 K10 C8 C9 D8 D9 R8 Q8 KF KX
      have hde : decide (a0 + 1 = a0 ∧ M' = M) = false := decide_eq_false (fun h => by have := h.1; omega)
      rw [hde]
      go_wp2_with fail
      refine (Order_held C10 (by omega)).mono ?_
      rintro e w11 ⟨b11, ec11, rfl, R11, hb11, K11⟩
      have KH := KG.trans K11 (cs := []) (bs := []) (by simp)
      have D11 := D10.keeps K11 (by simp) (by simp)
      have Q11 := Q10.keeps K11 (by simp)
      go_wp2_with fail
      refine (ksame_at w11 b11 0 M.length ec11 b6 0 M.length ec6 _ _ (eK M) (eV M) (eK M) (eV M) R11.inRow (R10.keeps K11 (by simp)).inRow (by omega)).mono ?_
      rintro e w12 ⟨bb, rfl, hbb, K12⟩
      obtain rfl : bb = true := hbb.2 (same_refl _ _ _)
      have KI := KH.trans K12 (cs := []) (bs := []) (by simp)
      go_wp2_with fail
      refine (Order_held (D11.keeps K12 (by simp) (by simp)) (by omega)).mono ?_
      rintro e w13 ⟨b13, ec13, rfl, R13, hb13, K13⟩
      have KJ := KI.trans K13 (cs := []) (bs := []) (by simp)
      go_wp2_with fail
      refine (ksame_at w13 b13 0 M'.length ec13 b7 0 M'.length ec7 _ _ (eK M') (eV M') (eK M') (eV M') R13.inRow ((Q11.keeps K12 (by simp)).keeps K13 (by simp)).inRow (by omega)).mono ?_
      rintro e w14 ⟨bb, rfl, hbb, K14⟩
      obtain rfl : bb = true := hbb.2 (same_refl _ _ _)
      go_wp2
      go_ret
      exact ⟨rfl, (KJ.trans K14 (cs := []) (bs := []) (by simp)).below (Nat.le_refl _) (by simp)⟩
    · go_wp2_with fail
      refine (ksame_at w7 b6 0 M.length ec6 b7 0 M'.length ec7 _ _ (eK M) (eV M) (eK M') (eV M') R6'.inRow R7.inRow (by omega)).mono ?_
      rintro e w8 ⟨bb, rfl, hbb, K8⟩
      rw [same_lists] at hbb
      have hbd : bb = decide (M = M') := by rw [Bool.eq_iff_iff, hbb, decide_eq_true_iff]
      have hbd' : bb = decide (M' = M) := by rw [hbd]; exact decide_eq_decide.2 eq_comm
      have C8 := C7.keeps K8 (by simp) (by simp)
      have D8 := D7.keeps K8 (by simp) (by simp)
      have R8 := R6'.keeps K8 (by simp)
      have Q8 := R7.keeps K8 (by simp)
      have KF := KE.trans K8 (cs := []) (bs := []) (by simp)
      have HB : Hid (bb = decide (M = M') ∧ bb = decide (M' = M)) := ⟨hbd, hbd'⟩
      clear C7 D7 R6' R7 KE K8 hbb hbd hbd'
      go_wp2_with fail
      refine (Equal_held C8 D8 (by omega)).mono ?_
      rintro e w9 ⟨rfl, K9⟩
      have C9 := C8.keeps K9 (by simp) (by simp)
      have D9 := D8.keeps K9 (by simp) (by simp)
      rw [show decide (a0 = a0 ∧ M = M') = bb by rw [HB.out.1]; simp]
      go_wp2_with fail
      refine (Equal_held D9 C9 (by omega)).mono ?_
      rintro e w10 ⟨rfl, K10⟩
      have C10 := C9.keeps K10 (by simp) (by simp)
      have D10 := D9.keeps K10 (by simp) (by simp)
      have KX := K9.trans K10 (cs := []) (bs := []) (by simp)
      have R10 := R8.keeps KX (by simp)
      have Q10 := Q8.keeps KX (by simp)
      have KG := KF.trans KX (cs := []) (bs := []) (by simp)
      clear K9 K10 C8 C9 D8 D9 R8 Q8 KF KX
      rw [show decide (a0 = a0 ∧ M' = M) = bb by rw [HB.out.2]; simp]
      go_wp2_with fail
      refine (Order_held C10 (by omega)).mono ?_
      rintro e w11 ⟨b11, ec11, rfl, R11, hb11, K11⟩
      have KH := KG.trans K11 (cs := []) (bs := []) (by simp)
      have D11 := D10.keeps K11 (by simp) (by simp)
      have Q11 := Q10.keeps K11 (by simp)
      go_wp2_with fail
      refine (ksame_at w11 b11 0 M.length ec11 b6 0 M.length ec6 _ _ (eK M) (eV M) (eK M) (eV M) R11.inRow (R10.keeps K11 (by simp)).inRow (by omega)).mono ?_
      rintro e w12 ⟨bb, rfl, hbb, K12⟩
      obtain rfl : bb = true := hbb.2 (same_refl _ _ _)
      have KI := KH.trans K12 (cs := []) (bs := []) (by simp)
      go_wp2_with fail
      refine (Order_held (D11.keeps K12 (by simp) (by simp)) (by omega)).mono ?_
      rintro e w13 ⟨b13, ec13, rfl, R13, hb13, K13⟩
      have KJ := KI.trans K13 (cs := []) (bs := []) (by simp)
      go_wp2_with fail
      refine (ksame_at w13 b13 0 M'.length ec13 b7 0 M'.length ec7 _ _ (eK M') (eV M') (eK M') (eV M') R13.inRow ((Q11.keeps K12 (by simp)).keeps K13 (by simp)).inRow (by omega)).mono ?_
      rintro e w14 ⟨bb, rfl, hbb, K14⟩
      obtain rfl : bb = true := hbb.2 (same_refl _ _ _)
      go_wp2
      go_ret
      exact ⟨rfl, (KJ.trans K14 (cs := []) (bs := []) (by simp)).below (Nat.le_refl _) (by simp)⟩
  exact main _ rfl
end Go.Proofs.Ymbrdx
