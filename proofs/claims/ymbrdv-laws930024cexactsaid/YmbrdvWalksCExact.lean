/- The law CExact: her walk. -/
import Derived.Test.YmbrdvCTools
import Derived.Deep.DeepCutAuto
namespace Go.Proofs.Ymbrdv
open Go.RowKit

theorem cholds_r {w : World} {cb nb : Nat} {c : Cs} {cap : Int} {len : Nat} {K V : Nat → Int} (R : RInv c cap len len K V) (H : CacheAt w cb nb c) (hl : len ≤ 1000000) (b off : Nat) (a : Option Addr) (ecap : Nat) (hE : InRow w b off a len 2 (ecell K V)) :
    Calls Ydvm.prog 29 #[.pointer (some ⟨cb, 0, none⟩), .int .i64 (max cap 0), .slice a len ecap] w fun e w' => e = .returned (.bool true) ∧ Keeps [] w w' := by
  have hL : (List.range len).reverse.length = len := by simp
  have h := cholds_at w cb nb c (List.range len).reverse H R.inv.ch (by rw [R.n, hL]) (by rw [R.inv.free]; rfl) (by omega) b off a ecap K V (by rw [hL]; exact hE) (fun j x hx => by
    obtain ⟨h1, h2⟩ := List.getElem?_eq_some_iff.1 hx
    rw [hL] at h1
    simp at h2
    rw [R.key x (by omega), R.val x (by omega), show len - 1 - x = j by omega]
    exact ⟨rfl, rfl⟩)
  rw [hL, R.cap] at h
  exact h

set_option maxRecDepth 100000 in
set_option maxHeartbeats 4000000 in
theorem walk_CExact (w : World) (a0 : Int) (w0 : (Lit.int .i64 a0).wf = true) (a1 : Option Addr) (len cap : Nat) (z : Nat → Nat → Int) (hz : InStr [.i64, .i64] w a1 len z) :
    Calls Ydvm.prog 9 #[.int .i64 a0, .slice a1 len cap] w fun e w' => e = .returned (.bool true) ∧ Below w.heap.size w w' := by
  by_cases hbig : 1024 < len
  · have hbig' : (1024 : Int) < (len : Int) := by omega
    go_enter Ydvm.func9, Ydvm.ntmps9
    go_wp2
    go_ret
    exact ⟨rfl, Below.refl _ _⟩
  have hlen : (len : Int) ≤ 1024 := by omega
  obtain ⟨b, off, hE⟩ := hz.ents
  generalize (fun i => z i 0) = K at *
  generalize (fun i => z i 1) = V at *
  obtain ⟨h00, h01⟩ := wf_i64 w0
  clear hz w0
  obtain ⟨room, hroom⟩ : ∃ room, room = max a0 0 := ⟨_, rfl⟩
  have HRM : Hid (room = max a0 0) := hroom
  clear hroom
  go_enter Ydvm.func9, Ydvm.ntmps9
  go_upto_if 14 with fail
  go_cut [5] (fun r wx => r = .int .i64 room ∧ w = wx)
  case first =>
    by_cases hneg : a0 < 0
    · go_wp2
      go_meet
      exact ⟨by rw [HRM.out, show max a0 0 = 0 by omega], rfl⟩
    · go_wp2
      go_meet
      exact ⟨by rw [HRM.out, show max a0 0 = a0 by omega], rfl⟩
  case rest =>
    obtain ⟨rfl, rfl⟩ := hcut
    by_cases hfit : (len : Int) ≤ room
    · go_wp2_with fail
      refine (cdistinct_at w b off a1 len cap K V hE (by omega)).mono ?_
      rintro e w1 ⟨bb, rfl, hbb, K1⟩
      have E1 := hE.keeps K1 (by simp)
      have HB : Hid (bb = true ↔ Distinct len K) := hbb
      clear hbb
      go_wp2_with fail
      refine (Restore_held a0 b off a1 len cap K V w1 E1 (by omega)).mono ?_
      rintro e w2 ⟨K2, cb, nb, hcb, hnb, h | h⟩
      · obtain ⟨rfl, _, hd, c, H2, R2⟩ := h
        obtain rfl : bb = true := HB.out.2 hd
        have HO := cholds_r R2 H2.at_ (by omega) b off a1 cap (E1.keeps K2 (by simp))
        rw [← HRM.out] at HO
        have KA := K1.trans K2 (cs := []) (bs := []) (by simp)
        clear R2 H2 E1 K1 K2 hd
        go_wp2_with fail
        refine HO.mono ?_
        rintro e w3 ⟨rfl, K3⟩
        clear HO
        go_wp2
        go_ret
        exact ⟨rfl, (KA.trans K3 (cs := []) (bs := []) (by simp)).below (Nat.le_refl _) (by simp)⟩
      · obtain ⟨rfl, hno, rfl, H2⟩ := h
        obtain rfl : bb = false := by
          cases bb with
          | false => rfl
          | true => exact absurd ⟨by rw [← HRM.out]; exact hfit, HB.out.1 rfl⟩ hno
        have EM := cempty_at w2 nb a0 H2
        rw [← HRM.out] at EM
        have KA := K1.trans K2 (cs := []) (bs := []) (by simp)
        clear H2 E1 K1 K2 hno
        go_wp2_with fail
        refine EM.mono ?_
        rintro e w3 ⟨rfl, rfl⟩
        clear EM
        go_wp2
        go_ret
        exact ⟨rfl, KA.below (Nat.le_refl _) (by simp)⟩
    · go_wp2_with fail
      refine (Restore_held a0 b off a1 len cap K V w hE (by omega)).mono ?_
      rintro e w2 ⟨K2, cb, nb, hcb, hnb, h | h⟩
      · exfalso; have h1 := h.2.1; have h2 := HRM.out; omega
      · obtain ⟨rfl, hno, rfl, H2⟩ := h
        have EM := cempty_at w2 nb a0 H2
        rw [← HRM.out] at EM
        clear H2 hno
        go_wp2_with fail
        refine EM.mono ?_
        rintro e w3 ⟨rfl, rfl⟩
        clear EM
        go_wp2
        go_ret
        exact ⟨rfl, K2.below (Nat.le_refl _) (by simp)⟩
end Go.Proofs.Ymbrdv
