/- The law ARest: her walk. -/
import Derived.Test.YmbrdvARules
namespace Go.Proofs.Ymbrdv
open Go.RowKit

set_option maxRecDepth 100000 in
set_option maxHeartbeats 4000000 in
theorem walk_ARest (w : World) (a0 : Option Addr) (n cap : Nat) (V : Nat → Int) (hz : InInts .i64 w a0 n V) (a1 : Int) (w1 : (Lit.int .u64 a1).wf = true) :
    Calls Ydvm.prog 3 #[.slice a0 n cap, .int .u64 a1] w fun e w' => e = .returned (.bool true) ∧ Below w.heap.size w w' := by
  by_cases hbig : 1024 < n
  · have hbig' : (1024 : Int) < (n : Int) := by omega
    go_enter Ydvm.func3, Ydvm.ntmps3
    go_wp2
    go_ret
    exact ⟨rfl, Below.refl _ _⟩
  have hlen : (n : Int) ≤ 1024 := by omega
  obtain ⟨⟨b, off, hE⟩, _⟩ := hz
  obtain ⟨h10, h11⟩ := wf_u64 w1
  have APL := aplus_at w b off a0 n cap V hE (by omega)
  have ORD := fun w1 vb vc (R : RowAt w1 vb 3 1 (n + 1) vc (icell (part n V))) => aorder_at w1 vb 0 (some ⟨vb, 0, none⟩) (n + 1) vc (part n V) R.inRow (by omega)
  have hnd := ordL_nodup (part n V) (n + 1)
  have hmem := ordL_mem (part n V) (n + 1)
  have hll := ordL_le (part n V) (n + 1)
  have hpos : 0 < (ordL (part n V) (n + 1)).length := by rw [ord_plus]; simp
  generalize ordL (part n V) (n + 1) = L at *
  obtain ⟨q, hq⟩ : ∃ q, L.length = q + 1 := ⟨L.length - 1, by omega⟩
  obtain ⟨k0, hk0, hk1⟩ := rem_nat a1 (q + 1) (by omega)
  have hk0' : a1 % ((q : Int) + 1) = (k0 : Int) := hk0
  have hk1' : (k0 : Int) < (q : Int) + 1 := by omega
  obtain ⟨i, hi⟩ : ∃ i, L[k0]? = some i := ⟨_, List.getElem?_eq_getElem (by omega)⟩
  have C0 := linkC_ch hnd hmem
  have hp0 := C0.prev_ok hi
  have hx0 := C0.next_ok hi
  have him := (hmem i (List.mem_of_getElem? hi)).1
  have RS := rest_same hnd hmem (by omega) hi
  have hel : (L.eraseIdx k0).length = q := by rw [List.length_eraseIdx_of_lt (by omega), hq]; rfl
  have hmem2 : ∀ x ∈ L.eraseIdx k0, x < n + 1 := fun x hx => (hmem x (List.mem_of_mem_eraseIdx hx)).1
  have hmem1 : ∀ x ∈ L, x < n + 1 := fun x hx => (hmem x hx).1
  have hq' : (q : Int) ≤ 2000 := by omega
  have hmk := make_ints q (by omega)
  have hrow := fun W : World => RowAt.madeInts W 3 q (nth (L.eraseIdx k0)) (by unfold maxLen; omega)
  rw [Nat.mul_one] at hmk
  simp only [Nat.mul_one] at hrow
  have HROW : Hid _ := hrow
  rw [hq] at ORD
  have hiI : (i : Int) < (n : Int) + 1 := by omega
  have HG : Hid (L.length = q + 1 ∧ (L.eraseIdx k0).length = q ∧ (∀ x ∈ L.eraseIdx k0, x < n + 1) ∧ (∀ x ∈ L, x < n + 1) ∧ L[k0]? = some i ∧ SameBut ((linkC (part n V) (n + 1) L).unlink i) (linkC (part n V) (n + 1) (L.eraseIdx k0)) i) := ⟨hq, hel, hmem2, hmem1, hi, RS⟩
  have hq2 : q ≤ n := by omega
  clear hE w1 hk0 C0 hnd hmem hpos hrow hq hel hmem2 hmem1 hi RS hll
  go_enter Ydvm.func3, Ydvm.ntmps3
  go_wp2_with fail
  refine APL.mono ?_
  rintro e w1 ⟨vb, vc, rfl, Rv, hvb, K1⟩
  have OR1 := ORD w1 vb vc Rv
  have s1 := K1.size
  clear APL ORD
  go_wp2_with fail
  refine OR1.mono ?_
  rintro e w2 ⟨ob, oc, rfl, Ro, hob, K2⟩
  have Rv2 := Rv.keeps K2 (by simp)
  have KA := K1.trans K2 (cs := []) (bs := []) (by simp)
  have lv := Rv.lt
  clear OR1 K1 K2 Rv
  have LK1 := alink_at w2 vb 0 (some ⟨vb, 0, none⟩) (n + 1) vc (part n V) Rv2.inRow (by omega) (by omega) ob 0 (some ⟨ob, 0, none⟩) oc L (by rw [HG.out.1]; exact Ro.inRow) HG.out.2.2.2.1 (by rw [HG.out.1]; omega)
  rw [HG.out.1] at LK1
  have s2 := KA.size
  have g0 := Ro.ints k0 (by omega)
  rw [nth_some HG.out.2.2.2.2.1] at g0
  go_wp2_with fail
  refine LK1.mono ?_
  rintro e w3 ⟨cb, nb, rfl, H3, hcb, hnb, K3⟩
  have Rv3 := Rv2.keeps K3 (by simp)
  have Ro3 := Ro.keeps K3 (by simp)
  have KB := KA.trans K3 (cs := []) (bs := []) (by simp)
  have lv2 := Rv2.lt
  have lo2 := Ro.lt
  have s3 := K3.size
  clear LK1 KA K3 Rv2 Ro g0
  have l3 := H3.lt
  have l3' := H3.nlt
  have UL := unlink_at cb nb i _ w3 H3 (show i < n + 1 from him) hp0 hx0
  clear H3
  go_wp2_with fail
  refine UL.mono ?_
  rintro e w4 ⟨rfl, H4, K4, S4⟩
  have Rv4 := Rv3.keeps K4 (by simp; omega)
  have Ro4 := Ro3.keeps K4 (by simp; omega)
  have KC := KB.trans K4 (cs := [cb, nb]) (bs := []) (by simp; omega)
  have lv4 := Rv4.lt
  have lo4 := Ro4.lt
  have lc4 := H4.lt
  have ln4 := H4.nlt
  have HS : Hid (RowAt w4 vb 3 1 (n + 1) vc (icell (part n V)) ∧ RowAt w4 ob 3 1 (q + 1) oc (icell (nth L)) ∧ CacheAt w4 cb nb ((linkC (part n V) (n + 1) L).unlink i) ∧ Keeps [] w w4) := ⟨Rv4, Ro4, H4, KC⟩
  clear UL KB K4 Rv3 Ro3 Rv4 Ro4 KC H4 S4
  go_wp2
  go_loopw [11] (fun v wr => ∃ k : Nat, k ≤ q ∧ v = .int .i64 k ∧ RowAt wr w4.heap.size 3 1 q q (icell (part k (nth (L.eraseIdx k0)))) ∧ Keeps [] w4 wr) (fun v _ => q - (intOf v).toNat)
  case atStart => exact ⟨0, by omega, rfl, HROW.out w4, (Keeps.refl _ _).alloc _⟩
  case round =>
    obtain ⟨k, hk, rfl, hR, hK⟩ := hrel
    by_cases hlt : k < q
    · have hlt' : (k : Int) < (q : Int) := by omega
      have hlt2 : (k : Int) < (q : Int) + 1 := by omega
      have Ro5 := HS.out.2.1.keeps hK (by simp)
      have g0 := Ro5.ints k (by omega)
      have g1 := Ro5.ints (k + 1) (by omega)
      have f0 := hR.ints k hlt
      have fz := hR.frozen
      have HR : Hid (RowAt wr w4.heap.size 3 1 q q (icell (part k (nth (L.eraseIdx k0)))) ∧ Keeps [] w4 wr) := ⟨hR, hK⟩
      clear hR hK Ro5
      by_cases hkk : k < k0
      · have hkk' : (k : Int) < (k0 : Int) := by omega
        go_wp2
        go_roundw
        case rel => exact ⟨k + 1, by omega, by go_num, HR.out.1.stepInt _ (nth_eraseIdx_lt hkk).symm, HR.out.2.setCell _ _ (.inr (Nat.le_refl _))⟩
        case measure => simp [intOf]; omega
      · have hkk' : ¬ (k : Int) < (k0 : Int) := by omega
        go_wp2
        go_roundw
        case rel => exact ⟨k + 1, by omega, by go_num, HR.out.1.stepInt _ (nth_eraseIdx_ge (by omega)).symm, HR.out.2.setCell _ _ (.inr (Nat.le_refl _))⟩
        case measure => simp [intOf]; omega
    · have hlt' : ¬ (k : Int) < (q : Int) := by omega
      obtain rfl : k = q := by omega
      have hR2 := hR.fullInt (Nat.le_refl _)
      have Rv5 := HS.out.1.keeps hK (by simp)
      have LK2 := alink_at wr vb 0 (some ⟨vb, 0, none⟩) (n + 1) vc (part n V) Rv5.inRow (by omega) (by omega) w4.heap.size 0 (some ⟨w4.heap.size, 0, none⟩) k (L.eraseIdx k0) (by rw [HG.out.2.1]; exact hR2.inRow) HG.out.2.2.1 (by rw [HG.out.2.1]; omega)
      rw [HG.out.2.1] at LK2
      have H6 := HS.out.2.2.1.keeps hK (by simp) (by simp)
      have KD := HS.out.2.2.2.trans hK (cs := []) (bs := []) (by simp)
      clear hR hR2 Rv5 hK
      go_wp2_with fail
      refine LK2.mono ?_
      rintro e w6 ⟨db, mb, rfl, H7, hdb, hmb, K6⟩
      have H8 := H6.keeps K6 (by simp) (by simp)
      have KE := KD.trans K6 (cs := []) (bs := []) (by simp)
      clear LK2 KD K6 H6
      have AS := asame_at w6 cb nb db mb _ _ (i : Int) H8 H7 (show 0 < n + 1 by omega) (show n + 1 ≤ 2000 by omega) HG.out.2.2.2.2.2
      go_wp2_with fail
      refine AS.mono ?_
      rintro e w7 ⟨rfl, K7⟩
      go_wp2
      go_ret
      exact ⟨rfl, (KE.trans K7 (cs := []) (bs := []) (by simp)).below (Nat.le_refl _) (by simp)⟩
end Go.Proofs.Ymbrdv
