/- The law LScript: her walk. -/
import Derived.Test.YmbrdxLModel
namespace Go.Proofs.Ymbrdx
open Go.RowKit

set_option maxRecDepth 100000 in
set_option maxHeartbeats 4000000 in
theorem walk_LScript (w : World) (a0 : Int) (_w0 : (Lit.int .i64 a0).wf = true) (a1 : Option Addr) (len cap : Nat) (z : Nat → Nat → Int) (hz : InStr [.u8, .i64, .i64] w a1 len z) (key : Int) (_w2 : (Lit.int .i64 key).wf = true) (pick : Int) (w3 : (Lit.int .u64 pick).wf = true) :
    Calls Ydxm.prog 13 #[.int .i64 a0, .slice a1 len cap, .int .i64 key, .int .u64 pick] w fun e w' => e = .returned (.bool true) ∧ Below w.heap.size w w' := by
  by_cases hbig : 512 < len
  · have hbig' : (512 : Int) < (len : Int) := by omega
    go_enter Ydxm.func13, Ydxm.ntmps13
    go_wp2
    go_ret
    exact ⟨rfl, Below.refl _ _⟩
  have hlen : (len : Int) ≤ 512 := by omega
  obtain ⟨b, off, hS⟩ := Script.of hz
  obtain ⟨h30, h31⟩ := wf_u64 w3
  have HS : Hid (Script w b off a1 len z) := hS
  clear hz _w0 _w2 w3 hS
  obtain ⟨room, hroom⟩ : ∃ room, room = max a0 0 := ⟨_, rfl⟩
  have HRM : Hid (room = max a0 0) := hroom
  clear hroom
  go_enter Ydxm.func13, Ydxm.ntmps13
  go_wp2_with fail
  refine (New_held a0 w).mono ?_
  rintro e w1 ⟨rfl, H1, K1, S1⟩
  rw [← HRM.out] at H1
  go_wp2
  go_loopw [10, 11] (fun v i wr => ∃ k nb mc : Nat, ∃ ma : Option Addr, ∃ c : Cs, k ≤ len ∧ i = .int .i64 k ∧ v = .slice ma (splay 8 2 0 1 room z [] k).length mc ∧ Held wr w.heap.size nb c k room (splay 8 2 0 1 room z [] k) ∧ w.heap.size ≤ nb ∧ SliceAt wr 26 2 (.slice ma (splay 8 2 0 1 room z [] k).length mc) (splay 8 2 0 1 room z [] k).length (ecell (eK (splay 8 2 0 1 room z [] k)) (eV (splay 8 2 0 1 room z [] k))) ∧ (∀ b', (Value.slice ma (splay 8 2 0 1 room z [] k).length mc).ownBlock = some b' → w.heap.size < b' ∧ b' ≠ nb) ∧ Keeps [] w wr) (fun _ i _ => len - (intOf i).toNat)
  case atStart => exact ⟨0, _, 0, none, _, by omega, rfl, rfl, H1, Nat.le_refl _, SliceAt.nil _ _ _ _, fun b h => by simp [Value.ownBlock] at h, K1⟩
  case round =>
    obtain ⟨k, nb, mc, ma, c, hk, rfl, rfl, HC, hnb, hSl, hown, hK⟩ := hrel
    clear H1 K1
    have hsz := hK.size
    have hcl := HC.lt
    have hcn := HC.nlt
    have hMl := HC.len_le
    by_cases hlt : k < len
    · have hlt' : (k : Int) < (len : Int) := by omega
      have S2 := HS.out.keeps hK (by simp)
      obtain rfl := S2.1.addr (by omega)
      have hblt := S2.1.lt (by omega)
      have hbw := HS.out.1.lt (by omega)
      obtain ⟨g0, g1, g2⟩ := instr3 S2.1 k hlt
      obtain ⟨b0, b1⟩ := S2.2 k hlt
      have hstep : splay 8 2 0 1 room z [] (k + 1) = sstep 8 2 0 1 room (splay 8 2 0 1 room z [] k) (z k 0) (z k 1) (z k 2) := rfl
      have hlm := lm_sstep HC.nodup (by rw [← HRM.out]; exact HC.len_cap) (z k 0) (z k 1) (z k 2)
      rw [← HRM.out, ← hstep] at hlm
      have ST := lstep_at wr w.heap.size nb k c room _ (z k 0) (z k 1) (z k 2) b0 b1 HC (by omega)
      rw [← hstep] at ST
      have HL : Hid (lm a0 (splay 8 2 0 1 room z [] k) (z k 0) (z k 1) (z k 2) = splay 8 2 0 1 room z [] (k + 1)) := hlm
      have HI : Hid (SliceAt wr 26 2 (.slice ma (splay 8 2 0 1 room z [] k).length mc) (splay 8 2 0 1 room z [] k).length (ecell (eK (splay 8 2 0 1 room z [] k)) (eV (splay 8 2 0 1 room z [] k))) ∧ (∀ b', (Value.slice ma (splay 8 2 0 1 room z [] k).length mc).ownBlock = some b' → w.heap.size < b' ∧ b' ≠ nb) ∧ Keeps [] w wr) := ⟨hSl, hown, hK⟩
      clear hlm hstep HC hSl hown hK S2
      generalize splay 8 2 0 1 room z [] k = M at *
      generalize hM2 : splay 8 2 0 1 room z [] (k + 1) = M2 at *
      have HM2 : Hid (splay 8 2 0 1 room z [] (k + 1) = M2) := hM2
      clear hM2
      generalize z k 0 = o at *
      generalize z k 1 = ky at *
      generalize z k 2 = vl at *
      go_wp2_with fail
      refine ST.mono ?_
      rintro e w2 ⟨nb2, c2, rfl, H2, hb2, K2⟩
      have s2 := K2.size
      have hsl := HI.out.1.lt
      have SL2 := HI.out.1.keeps K2 (fun b' hb' => by have := HI.out.2.1 b' hb'; simp; omega)
      have q0 := K2.cell g0 (by simp; omega)
      have q1 := K2.cell g1 (by simp; omega)
      have q2 := K2.cell g2 (by simp; omega)
      have KA := HI.out.2.2.trans K2 (cs := [w.heap.size, nb]) (bs := []) (by simp; omega)
      have LM := lmodel_at w2 ma mc M a0 o ky vl b0 b1 SL2 (by omega)
      have n2 := H2.nlt
      rw [HL.out] at LM
      have HJ : Hid (Held w2 w.heap.size nb2 c2 (k + 1) room M2 ∧ (nb2 = nb ∨ wr.heap.size ≤ nb2) ∧ Keeps [] w w2) := ⟨H2, hb2, KA⟩
      clear ST g0 g1 g2 K2 KA H2 hb2 SL2
      go_wp2_with fail
      refine LM.mono ?_
      rintro e w3 ⟨ma3, mc3, rfl, SL3, hown3, K3⟩
      clear LM
      have HN : Hid (Held w3 w.heap.size nb2 c2 (k + 1) room M2 ∧ SliceAt w3 26 2 (.slice ma3 M2.length mc3) M2.length (ecell (eK M2) (eV M2)) ∧ (∀ b', (Value.slice ma3 M2.length mc3).ownBlock = some b' → w.heap.size < b' ∧ b' ≠ nb2) ∧ w.heap.size ≤ nb2 ∧ Keeps [] w w3) := by
        refine ⟨HJ.out.1.keeps K3 (by simp) (by simp), SL3, fun b' hb' => ?_, by have := HJ.out.2.1; omega, HJ.out.2.2.trans K3 (by simp)⟩
        rcases hown3 b' hb' with h | h
        · have h1 := HI.out.2.1 b' h
          have h2 := hsl b' h
          have := HJ.out.2.1
          omega
        · have := HJ.out.2.2.size
          omega
      clear SL3 hown3 K3
      go_wp2
      go_roundw
      case rel =>
        refine ⟨k + 1, nb2, mc3, ma3, c2, by omega, by go_num, ?_⟩
        rw [HM2.out]
        exact ⟨rfl, HN.out.1, HN.out.2.2.2.1, HN.out.2.1, HN.out.2.2.1, HN.out.2.2.2.2⟩
      case measure => simp [intOf]; omega
    · have hlt' : ¬ (k : Int) < (len : Int) := by omega
      obtain rfl : k = len := by omega
      have S2 := HS.out.keeps hK (by simp)
      generalize splay 8 2 0 1 room z [] k = M at *
      obtain ⟨ra, rc, rb, hv, hE, _⟩ := hSl.inRow
      obtain ⟨rfl, rfl⟩ : ma = ra ∧ mc = rc := by simpa using hv
      clear hv hSl hown
      have hMi : (M.length : Int) ≤ 512 := by omega
      go_wp2_with fail
      refine (Peek_held key HC (by omega)).mono ?_
      rintro e w2 ⟨rfl, rfl⟩
      go_wp2_with fail
      refine (llook_at w2 rb 0 ma mc M key hE (by omega)).mono ?_
      rintro e w3 ⟨rfl, rfl⟩
      by_cases h0 : k = 0
      · have h0' : ((k : Int) == 0) = true := by simpa using h0
        go_wp2
        go_ret
        exact ⟨rfl, hK.below (Nat.le_refl _) (by simp)⟩
      · have h0' : ((k : Int) == 0) = false := beq_eq_false_iff_ne.2 (by omega)
        have hkp : (0 : Int) < (k : Int) := by omega
        obtain ⟨q, hq⟩ : ∃ q : Nat, (q : Int) = pick % (k : Int) := ⟨(pick % (k : Int)).toNat, Int.toNat_of_nonneg (Int.emod_nonneg _ (by omega))⟩
        have hql : q < k := by have := Int.emod_lt_of_pos pick hkp; omega
        have hql' : (q : Int) < (k : Int) := by omega
        rw [eq_comm] at hq
        obtain ⟨g0, g1, g2⟩ := instr3 S2.1 q hql
        have hbl := S2.1.lt (by omega)
        obtain rfl := S2.1.addr (by omega)
        clear h0
        generalize z q 1 = ky at *
        have HI : Hid (Held w3 w.heap.size nb c k room M ∧ InRow w3 rb 0 ma M.length 2 (ecell (eK M) (eV M)) ∧ Keeps [] w w3) := ⟨HC, hE, hK⟩
        clear HC hE hK S2 g0 g2
        go_wp2_with fail
        refine (Peek_held ky HI.out.1 (by omega)).mono ?_
        rintro e w4 ⟨rfl, rfl⟩
        go_wp2_with fail
        refine (llook_at w4 rb 0 ma mc M ky HI.out.2.1 (by omega)).mono ?_
        rintro e w5 ⟨rfl, rfl⟩
        go_wp2
        go_ret
        exact ⟨rfl, HI.out.2.2.below (Nat.le_refl _) (by simp)⟩
end Go.Proofs.Ymbrdx
