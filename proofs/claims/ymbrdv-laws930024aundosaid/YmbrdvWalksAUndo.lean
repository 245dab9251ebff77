/- The law AUndo: her walk. -/
import Derived.Test.YmbrdvARules
namespace Go.Proofs.Ymbrdv
open Go.RowKit

set_option maxRecDepth 100000 in
set_option maxHeartbeats 4000000 in
theorem walk_AUndo (w : World) (a0 : Option Addr) (n cap : Nat) (V : Nat → Int) (hz : InInts .i64 w a0 n V) :
    Calls Ydvm.prog 4 #[.slice a0 n cap] w fun e w' => e = .returned (.bool true) ∧ Below w.heap.size w w' := by
  by_cases hbig : 1024 < n
  · have hbig' : (1024 : Int) < (n : Int) := by omega
    go_enter Ydvm.func4, Ydvm.ntmps4
    go_wp2
    go_ret
    exact ⟨rfl, Below.refl _ _⟩
  have hlen : (n : Int) ≤ 1024 := by omega
  obtain ⟨⟨b, off, hE⟩, _⟩ := hz
  have HE : Hid _ := hE
  have hnd := ordL_nodup V n
  have hmem := ordL_mem V n
  have hll : (ordL V n).length ≤ 2000 := by have := ordL_le V n; omega
  have hmem' : ∀ x ∈ ordL V n, x < n + 1 ∧ kd (part n V x) ≠ 2 := fun x hx => by
    obtain ⟨h1, h2⟩ := hmem x hx
    exact ⟨by omega, by rw [show part n V x = V x from if_pos h1]; exact h2⟩
  have hno : n ∉ ordL V n := fun h => by have := (hmem n h).1; omega
  have C0 := linkC_ch (m := n + 1) hnd hmem'
  have US := undo_same (m := n + 1) hnd hmem' (by omega) (s := n) (by omega) hno
  have C1 := C0.pushFront (i := n) (show n < n + 1 by omega) hno (by omega)
  have hx0 : (n :: ordL V n)[0]? = some n := rfl
  have hp1 := C1.prev_ok hx0
  have hx1 := C1.next_ok hx0
  have hh0 := C0.head_ok
  have hsz := C1.size
  have hhd := C1.head
  have ORD := fun w1 (K1 : Keeps [] w w1) => aorder_at w1 b off a0 n cap V (hE.keeps K1 (by simp)) (by omega)
  generalize hL : ordL V n = L at *
  have APL := aplus_at w b off a0 n cap V hE (by omega)
  clear hE hnd hmem C0 C1 hx0 hno hL
  go_enter Ydvm.func4, Ydvm.ntmps4
  go_wp2_with fail
  refine APL.mono ?_
  rintro e w1 ⟨vb, vc, rfl, Rv, hvb, K1⟩
  have OR1 := ORD w1 K1
  have s1 := K1.size
  clear APL ORD
  go_wp2_with fail
  refine OR1.mono ?_
  rintro e w2 ⟨ob, oc, rfl, Ro, hob, K2⟩
  have Rv2 := Rv.keeps K2 (by simp)
  have KA := K1.trans K2 (cs := []) (bs := []) (by simp)
  have lv := Rv.lt
  clear OR1 K1 K2 Rv
  have LK1 := alink_at w2 vb 0 (some ⟨vb, 0, none⟩) (n + 1) vc (part n V) Rv2.inRow (by omega) (by omega) ob 0 (some ⟨ob, 0, none⟩) oc L Ro.inRow (fun x hx => (hmem' x hx).1) hll
  have s2 := KA.size
  go_wp2_with fail
  refine LK1.mono ?_
  rintro e w3 ⟨cb, nb, rfl, H3, hcb, hnb, K3⟩
  have Rv3 := Rv2.keeps K3 (by simp)
  have Ro3 := Ro.keeps K3 (by simp)
  have KB := KA.trans K3 (cs := []) (bs := []) (by simp)
  have lv2 := Rv2.lt
  have lo2 := Ro.lt
  have s3 := K3.size
  clear LK1 KA K3 Rv2 Ro
  have PF := pushFront_at cb nb n _ w3 H3 (show n < n + 1 by omega) hh0
  have l3 := H3.lt
  have l3' := H3.nlt
  clear H3
  go_wp2_with fail
  refine PF.mono ?_
  rintro e w4 ⟨rfl, H4, K4, S4⟩
  have Rv4 := Rv3.keeps K4 (by simp; omega)
  have Ro4 := Ro3.keeps K4 (by simp; omega)
  have KC := KB.trans K4 (cs := [cb, nb]) (bs := []) (by simp; omega)
  clear PF KB K4 Rv3 Ro3
  have q1 := H4.c1
  have q4 := H4.c4
  rw [hhd, nth_cons_zero] at q1
  rw [hsz, List.length_cons, show ((L.length + 1 : Nat) : Int) = (L.length : Int) + 1 by omega] at q4
  have UL := unlink_at cb nb n _ w4 H4 (show n < ((linkC (part n V) (n + 1) L).pushFront n).n by rw [pushFront_n]; show n < n + 1; omega) hp1 hx1
  clear H4
  have hll' : (L.length : Int) ≤ 2000 := by omega
  go_wp2_with fail
  refine UL.mono ?_
  rintro e w5 ⟨rfl, H5, K5, S5⟩
  have Rv5 := Rv4.keeps K5 (by simp; omega)
  have Ro5 := Ro4.keeps K5 (by simp; omega)
  have KD := KC.trans K5 (cs := [cb, nb]) (bs := []) (by simp; omega)
  clear UL KC K5 Rv4 Ro4 q1 q4
  have LK2 := alink_at w5 vb 0 (some ⟨vb, 0, none⟩) (n + 1) vc (part n V) Rv5.inRow (by omega) (by omega) ob 0 (some ⟨ob, 0, none⟩) oc L Ro5.inRow (fun x hx => (hmem' x hx).1) hll
  go_wp2_with fail
  refine LK2.mono ?_
  rintro e w6 ⟨db, mb, rfl, H6, hdb, hmb, K6⟩
  have H7 := H5.keeps K6 (by simp) (by simp)
  have KE := KD.trans K6 (cs := []) (bs := []) (by simp)
  clear LK2 KD K6 H5
  have AS := asame_at w6 cb nb db mb _ _ (n : Int) H7 H6 (by rw [US.n.symm]; show 0 < n + 1; omega) (by rw [US.n.symm]; show n + 1 ≤ 2000; omega) US
  go_wp2_with fail
  refine AS.mono ?_
  rintro e w7 ⟨rfl, K7⟩
  go_wp2
  go_ret
  exact ⟨rfl, (KE.trans K7 (cs := []) (bs := []) (by simp)).below (Nat.le_refl _) (by simp)⟩
end Go.Proofs.Ymbrdv
