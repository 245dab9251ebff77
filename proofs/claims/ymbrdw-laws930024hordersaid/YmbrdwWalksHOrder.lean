/- The law HOrder: her walk. -/
import Derived.Test.YmbrdwBuildH
namespace Go.Proofs.Ymbrdw
open Go.RowKit

set_option maxRecDepth 100000 in
set_option maxHeartbeats 2000000 in
theorem walk_HOrder (w : World) (a0 : Int) (w0 : (Lit.int .u32 a0).wf = true) (a1 : Option Addr) (len cap : Nat) (z : Nat → Nat → Int) (hz : InStr [.u8, .i64, .i64] w a1 len z) :
    Calls Ydwm.prog 12 #[.int .u32 a0, .slice a1 len cap] w fun e w' => e = .returned (.bool true) ∧ Below w.heap.size w w' := by
  by_cases hbig : 1024 < len
  · have hbig' : (1024 : Int) < (len : Int) := by omega
    go_enter Ydwm.func12, Ydwm.ntmps12
    go_wp2
    go_ret
    exact ⟨rfl, Below.refl _ _⟩
  have hlen : (len : Int) ≤ 1024 := by omega
  obtain ⟨b, off, hS⟩ := Script.of hz
  obtain ⟨h00, h01⟩ := wf_u32 w0
  have hmx : max a0 0 = a0 := by omega
  have hen := entry_neq
  clear hz w0
  go_enter Ydwm.func12, Ydwm.ntmps12
  go_wp2_with fail
  refine (hbuild_at w a0 b off a1 len cap z hS (by omega)).mono ?_
  rintro e w1 ⟨nb, c, rfl, H1, hnb, K1⟩
  rw [hmx] at H1
  generalize splay 6 1 2 3 a0 z [] len = M at *
  have s1 := K1.size
  have hcl := H1.lt
  have hnl := H1.nlt
  have hMl := H1.len_le
  clear hS
  go_wp2_with fail
  refine (Order_held H1 (by omega)).mono ?_
  rintro e w2 ⟨b2, ec2, rfl, R2, hb2, K2⟩
  have s2 := K2.size
  have H2 := H1.keeps K2 (by simp) (by simp)
  go_wp2_with fail
  refine (Evict_held H2 (by omega)).mono ?_
  rintro e w3 ⟨rfl, H3, K3⟩
  have s3 := K3.size
  have R3 := R2.keeps K3 (by simp; omega)
  go_wp2_with fail
  refine (Order_held (H3.alloc _) (by omega)).mono ?_
  rintro e w4 ⟨b4, ec4, rfl, R4, hb4, K4⟩
  have s4 := K4.size
  have H4 := (H3.alloc _).keeps K4 (by simp) (by simp)
  have R5 := (R3.alloc _).keeps K4 (by simp)
  have hl4 := R4.lt
  have hl5 := R5.lt
  have cap4 := H4.at_.c5
  rw [H4.cap] at cap4
  have q0 : w4.cell? ⟨w3.heap.size, 0, none⟩ = some (.int .i64 (M.getLastD (0, 0)).1) := K4.cell (by simp) (by simp)
  have q1 : w4.cell? ⟨w3.heap.size, 1, none⟩ = some (.int .i64 (M.getLastD (0, 0)).2) := K4.cell (by simp) (by simp)
  have BW : Below w.heap.size w w4 := by
    have a := (K1.trans K2 (by simp)).trans K3 (cs := [w.heap.size, nb]) (bs := []) (by simp; omega)
    exact ((a.alloc _).trans K4 (by simp)).below (Nat.le_refl _) (by simp)
  have HB : Hid (Held w4 w.heap.size nb c.evict len a0 M.dropLast ∧ Below w.heap.size w w4 ∧ RowAt w4 b4 28 2 M.dropLast.length ec4 (ecell (eK M.dropLast) (eV M.dropLast)) ∧ RowAt w4 b2 28 2 M.length ec2 (ecell (eK M) (eV M))) := ⟨H4, BW, R4, R5⟩
  clear H1 H2 H3 H4 K1 K2 K3 K4 R2 R3 R4 R5 BW
  cases hM : M with
  | nil =>
    subst hM
    have LEN := Len_held HB.out.1
    simp at LEN q0 q1
    go_wp2_with fail
    refine LEN.mono ?_
    rintro e w5 ⟨rfl, rfl⟩
    clear LEN
    go_wp2
    go_ret
    exact ⟨rfl, HB.out.2.1⟩
  | cons x t =>
    obtain ⟨m, hm⟩ : ∃ m, M.length = m + 1 := ⟨t.length, by rw [hM]; rfl⟩
    have hne : (!M.isEmpty) = true := by rw [hM]; rfl
    rw [← hM]
    have hdl : M.dropLast.length = m := by rw [List.length_dropLast]; omega
    have LEN := Len_held HB.out.1
    rw [getLastD_eK hm] at q0 q1
    obtain ⟨r0, r1⟩ := HB.out.2.2.2.ents m (by omega)
    have HM : Hid (M.length = m + 1 ∧ M.dropLast.length = m) := ⟨hm, hdl⟩
    have hm1 : (m : Int) ≤ 1024 := by omega
    rw [hdl] at LEN
    rw [hne, hm, hdl]
    clear hM hm hdl hne hMl
    go_wp2_with fail
    refine LEN.mono ?_
    rintro e w5 ⟨rfl, rfl⟩
    clear LEN
    go_wp2
    have hmz : (m : Int) < (m : Int) + 1 := by omega
    go_quiet (fail)
    go_wp2
    go_loopw [11] (fun i wr => ∃ k : Nat, k ≤ m ∧ i = .int .i64 k ∧ Keeps [] w5 wr) (fun i _ => m - (intOf i).toNat)
    case atStart => exact ⟨0, by omega, rfl, (Keeps.refl _ _).drewN _⟩
    case round =>
      obtain ⟨k, hk, rfl, K6⟩ := hrel
      by_cases hlt : k < m
      · have hlt' : (k : Int) < (m : Int) := by omega
        have hlt2 : (k : Int) < (m : Int) + 1 := by omega
        obtain ⟨e0, e1⟩ := (HB.out.2.2.1.keeps K6 (by simp)).ents k (by have := HM.out.2; omega)
        obtain ⟨f0, f1⟩ := (HB.out.2.2.2.keeps K6 (by simp)).ents k (by have := HM.out.1; omega)
        have de := dropLast_eK HM.out.1 k hlt
        rw [de.1] at e0
        rw [de.2] at e1
        have HK : Hid (Keeps [] w5 wr) := K6
        clear de K6
        go_wp2
        go_quiet (fail)
        go_wp2
        go_roundw
        case rel => exact ⟨k + 1, by omega, by go_num, HK.out.drewN _⟩
        case measure => simp [intOf]; omega
      · have hlt' : ¬ (k : Int) < (m : Int) := by omega
        go_wp2
        go_ret
        exact ⟨rfl, HB.out.2.1.trans (K6.below (by have := HB.out.2.1.size; omega) (by simp))⟩
end Go.Proofs.Ymbrdw
