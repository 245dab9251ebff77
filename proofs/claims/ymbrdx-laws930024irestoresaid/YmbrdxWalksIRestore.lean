/- The law IRestore: her walk. -/
import Derived.Test.YmbrdxBuildI
import Derived.Test.YmbrdxSame
import Derived.Test.YmbrdxLists
namespace Go.Proofs.Ymbrdx
open Go.RowKit

theorem same_refl (n : Nat) (K V : Nat → Int) : SameEnts n K V n K V := ⟨rfl, fun _ _ => ⟨rfl, rfl⟩⟩

set_option maxRecDepth 100000 in
set_option maxHeartbeats 2000000 in
theorem walk_IRestore (w : World) (a0 : Int) (w0 : (Lit.int .u8 a0).wf = true) (a1 : Option Addr) (len cap : Nat) (z : Nat → Nat → Int) (hz : InStr [.u8, .i64, .i64] w a1 len z) :
    Calls Ydxm.prog 5 #[.int .u8 a0, .slice a1 len cap] w fun e w' => e = .returned (.bool true) ∧ Below w.heap.size w w' := by
  by_cases hbig : 1024 < len
  · have hbig' : (1024 : Int) < (len : Int) := by omega
    go_enter Ydxm.func5, Ydxm.ntmps5
    go_wp2
    go_ret
    exact ⟨rfl, Below.refl _ _⟩
  have hlen : (len : Int) ≤ 1024 := by omega
  obtain ⟨b, off, hS⟩ := Script.of hz
  obtain ⟨h00, h01⟩ := wf_u8 w0
  have hmx : max a0 0 = a0 := by omega
  clear hz w0
  go_enter Ydxm.func5, Ydxm.ntmps5
  go_wp2_with fail
  refine (iplay_at w a0 b off a1 len cap z hS (by omega)).mono ?_
  rintro e w1 ⟨nb, c, rfl, H1, hnb, K1⟩
  rw [hmx] at H1
  generalize splay 5 2 3 4 a0 z [] len = M at *
  have s1 := K1.size
  have hcl := H1.lt
  have hnl := H1.nlt
  have hMl := H1.len_le
  have hMc := H1.len_cap
  have hnd := nodup_distinct H1.nodup
  clear hS
  go_wp2_with fail
  refine (Order_held H1 (by omega)).mono ?_
  rintro e w2 ⟨b2, ec2, rfl, R2, hb2, K2⟩
  have s2 := K2.size
  have H2 := H1.keeps K2 (by simp) (by simp)
  go_wp2_with fail
  refine (Restore_held a0 b2 0 _ M.length ec2 (eK M) (eV M) w2 R2.inRow (by omega)).mono ?_
  rintro e w3 ⟨K3, cb, mb, hcb, hmb, h | h⟩
  · obtain ⟨rfl, _, _, d, H3, _⟩ := h
    have s3 := K3.size
    rw [elist_eKV, hmx] at H3
    have H4 := H2.keeps K3 (by simp) (by simp)
    have R3 := R2.keeps K3 (by simp)
    go_wp2_with fail
    refine (Equal_held H3 H4 (by omega)).mono ?_
    rintro e w4 ⟨rfl, K4⟩
    have H5 := H3.keeps K4 (by simp) (by simp)
    have R4 := R3.keeps K4 (by simp)
    simp only [and_self, decide_true]
    go_wp2_with fail
    refine (Order_held H5 (by omega)).mono ?_
    rintro e w5 ⟨b5, ec5, rfl, R5, hb5, K5⟩
    have R6 := R4.keeps K5 (by simp)
    go_wp2_with fail
    refine (isame_at w5 b5 0 M.length ec5 b2 0 M.length ec2 _ _ (eK M) (eV M) (eK M) (eV M) R5.inRow R6.inRow (by omega)).mono ?_
    rintro e w6 ⟨bb, rfl, hbb, K6⟩
    obtain rfl : bb = true := hbb.2 (same_refl _ _ _)
    go_wp2
    go_ret
    exact ⟨rfl, (((((K1.trans K2 (by simp)).trans K3 (by simp)).trans K4 (by simp)).trans K5 (by simp)).trans K6 (cs := []) (bs := []) (by simp)).below (Nat.le_refl _) (by simp)⟩
  · exact absurd ⟨by rw [hmx]; exact hMc, hnd⟩ h.2.1
end Go.Proofs.Ymbrdx
