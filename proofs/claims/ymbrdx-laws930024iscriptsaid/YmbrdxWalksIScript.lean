/- The law IScript: her walk. -/
import Derived.Test.YmbrdxBuildI
import Derived.Test.YmbrdxSame
import Derived.Test.YmbrdxIModel
namespace Go.Proofs.Ymbrdx
open Go.RowKit

set_option maxRecDepth 100000 in
set_option maxHeartbeats 2000000 in
theorem walk_IScript (w : World) (a0 : Int) (w0 : (Lit.int .u8 a0).wf = true) (a1 : Option Addr) (len cap : Nat) (z : Nat → Nat → Int) (hz : InStr [.u8, .i64, .i64] w a1 len z) :
    Calls Ydxm.prog 4 #[.int .u8 a0, .slice a1 len cap] w fun e w' => e = .returned (.bool true) ∧ Below w.heap.size w w' := by
  by_cases hbig : 1024 < len
  · have hbig' : (1024 : Int) < (len : Int) := by omega
    go_enter Ydxm.func4, Ydxm.ntmps4
    go_wp2
    go_ret
    exact ⟨rfl, Below.refl _ _⟩
  have hlen : (len : Int) ≤ 1024 := by omega
  obtain ⟨b, off, hS⟩ := Script.of hz
  obtain ⟨h00, h01⟩ := wf_u8 w0
  have hmx : max a0 0 = a0 := by omega
  have hsb : 0 < len → b < w.heap.size := fun h => hS.1.lt h
  clear hz w0
  have HS : Hid (Script w b off a1 len z) := hS
  go_enter Ydxm.func4, Ydxm.ntmps4
  go_wp2_with fail
  refine (iplay_at w a0 b off a1 len cap z hS (by omega)).mono ?_
  rintro e w1 ⟨nb, c, rfl, H1, hnb, K1⟩
  rw [hmx] at H1
  have IM := fun w' (h : Script w' b off a1 len z) => imodel_at w' a0 h00 b off a1 len cap z h (by omega)
  generalize splay 5 2 3 4 a0 z [] len = M at *
  have s1 := K1.size
  have hMl := H1.len_le
  clear hS
  go_wp2_with fail
  refine (Order_held H1 (by omega)).mono ?_
  rintro e w2 ⟨b2, ec2, rfl, R2, hb2, K2⟩
  have H2 := H1.keeps K2 (by simp) (by simp)
  have KA := K1.trans K2 (cs := []) (bs := []) (by simp)
  have IM2 := IM w2 (HS.out.keeps KA (by simp))
  have LEN := Len_held H2
  clear IM K1 K2 H1 H2
  go_wp2_with fail
  refine LEN.mono ?_
  rintro e w3 ⟨rfl, rfl⟩
  clear LEN
  go_wp2_with fail
  refine IM2.mono ?_
  rintro e w4 ⟨ma, mc, rfl, SL4, _, K4⟩
  clear IM2
  obtain ⟨ra, rc, rb, hv, hE, _⟩ := SL4.inRow
  obtain ⟨rfl, rfl⟩ : ma = ra ∧ mc = rc := by simpa using hv
  have R4 := R2.keeps K4 (by simp)
  have KB := KA.trans K4 (cs := []) (bs := []) (by simp)
  clear hv SL4 R2 KA K4
  go_wp2_with fail
  refine (isame_at w4 b2 0 M.length ec2 rb 0 M.length mc _ ma (eK M) (eV M) (eK M) (eV M) R4.inRow hE (by omega)).mono ?_
  rintro e w6 ⟨bb, rfl, hbb, K6⟩
  obtain rfl : bb = true := hbb.2 ⟨rfl, fun _ _ => ⟨rfl, rfl⟩⟩
  go_wp2
  go_ret
  exact ⟨rfl, (KB.trans K6 (cs := []) (bs := []) (by simp)).below (Nat.le_refl _) (by simp)⟩
end Go.Proofs.Ymbrdx
