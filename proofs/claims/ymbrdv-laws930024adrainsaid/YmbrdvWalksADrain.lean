/- The law ADrain: her walk. -/
import Derived.Test.YmbrdvARules
namespace Go.Proofs.Ymbrdv
open Go.RowKit

/-- m places of a list from place lo on -/
def sub (L : List Nat) (lo m : Nat) : List Nat := (L.drop lo).take m
theorem sub_get (L : List Nat) (lo m j : Nat) : (sub L lo m)[j]? = if j < m then L[lo + j]? else none := by
  unfold sub
  by_cases h : j < m
  · rw [if_pos h, List.getElem?_take, if_pos h, List.getElem?_drop]
  · rw [if_neg h, List.getElem?_take, if_neg h]
theorem sub_len {L : List Nat} {lo m : Nat} (h : lo + m ≤ L.length) : (sub L lo m).length = m := by unfold sub; simp; omega
theorem sub_head (L : List Nat) (lo m : Nat) : (sub L lo (m + 1)).eraseIdx 0 = sub L (lo + 1) m := by
  apply List.ext_getElem?
  intro j
  rw [List.getElem?_eraseIdx, if_neg (by omega), sub_get, sub_get]
  by_cases h : j < m
  · rw [if_pos (by omega), if_pos h, show lo + (j + 1) = lo + 1 + j by omega]
  · rw [if_neg (by omega), if_neg h]
theorem sub_tail (L : List Nat) (lo m : Nat) : (sub L lo (m + 1)).eraseIdx m = sub L lo m := by
  apply List.ext_getElem?
  intro j
  rw [List.getElem?_eraseIdx, sub_get, sub_get, sub_get]
  by_cases h : j < m
  · rw [if_pos h, if_pos h, if_pos (by omega)]
  · rw [if_neg h, if_neg h, if_neg (by omega)]

set_option maxRecDepth 100000 in
set_option maxHeartbeats 4000000 in
theorem walk_ADrain (w : World) (a0 : Option Addr) (n cap : Nat) (V : Nat → Int) (hz : InInts .i64 w a0 n V) (a1 : Option Addr) (fl fcap : Nat) (fb : Nat → Bool) (hf : InBools w a1 fl fb) :
    Calls Ydvm.prog 5 #[.slice a0 n cap, .slice a1 fl fcap] w fun e w' => e = .returned (.bool true) ∧ Below w.heap.size w w' := by
  by_cases hbig : 1024 < n
  · have hbig' : (1024 : Int) < (n : Int) := by omega
    go_enter Ydvm.func5, Ydvm.ntmps5
    go_wp2
    go_ret
    exact ⟨rfl, Below.refl _ _⟩
  have hlen : (n : Int) ≤ 1024 := by omega
  obtain ⟨⟨b, off, hE⟩, _⟩ := hz
  obtain ⟨f1, f2, hF⟩ := hf
  have HF : Hid _ := hF
  have APL := aplus_at w b off a0 n cap V hE (by omega)
  have ORD := fun w1 vb vc (R : RowAt w1 vb 3 1 (n + 1) vc (icell (part n V))) => aorder_at w1 vb 0 (some ⟨vb, 0, none⟩) (n + 1) vc (part n V) R.inRow (by omega)
  have hnd := ordL_nodup (part n V) (n + 1)
  have hmem := ordL_mem (part n V) (n + 1)
  have hll := ordL_le (part n V) (n + 1)
  generalize ordL (part n V) (n + 1) = L at *
  have C0 := linkC_ch hnd hmem
  have HG : Hid (Ch (linkC (part n V) (n + 1) L) L ∧ ∀ x ∈ L, x < n + 1) := ⟨C0, fun x hx => (hmem x hx).1⟩
  have hll' : (L.length : Int) ≤ 2000 := by omega
  clear hE hF C0 hnd hmem
  go_enter Ydvm.func5, Ydvm.ntmps5
  go_wp2_with fail
  refine APL.mono ?_
  rintro e w1 ⟨vb, vc, rfl, Rv, hvb, K1⟩
  have OR1 := ORD w1 vb vc Rv
  have s1 := K1.size
  clear APL ORD
  go_wp2_with fail
  refine OR1.mono ?_
  rintro e w2 ⟨ob, oc, rfl, Ro, hob, K2⟩
  have Rv2 := Rv.keeps K2 (by simp)
  have KA := K1.trans K2 (cs := []) (bs := []) (by simp)
  have lv := Rv.lt
  clear OR1 K1 K2 Rv
  have LK1 := alink_at w2 vb 0 (some ⟨vb, 0, none⟩) (n + 1) vc (part n V) Rv2.inRow (by omega) (by omega) ob 0 (some ⟨ob, 0, none⟩) oc L Ro.inRow HG.out.2 (by omega)
  have s2 := KA.size
  go_wp2_with fail
  refine LK1.mono ?_
  rintro e w3 ⟨cb, nb, rfl, H3, hcb, hnb, K3⟩
  have lo2 := Ro.lt
  have Ro3 := Ro.keeps K3 (by simp)
  have KB := KA.trans K3 (cs := []) (bs := []) (by simp)
  have s3 := K3.size
  have hoc : ob ≠ cb := by omega
  have hon : ob ≠ nb := by omega
  have HS : Hid (RowAt w3 ob 3 1 L.length oc (icell (nth L)) ∧ CacheAt w3 cb nb (linkC (part n V) (n + 1) L) ∧ Keeps [] w w3) := ⟨Ro3, H3, KB⟩
  have hsub : sub L 0 L.length = L := by unfold sub; simp
  have HSUB : Hid _ := hsub
  clear LK1 KA K3 Rv2 Ro Ro3 H3 KB hsub
  go_wp2
  go_loopw [8, 9, 10] (fun p q v wr => ∃ (k lo m : Nat) (c : Cs), k + m = L.length ∧ lo ≤ k ∧ v = .int .i64 k ∧ p = .int .i64 lo ∧ q = .int .i64 ((lo : Int) + m - 1) ∧ CacheAt wr cb nb c ∧ Ch c (sub L lo m) ∧ c.n = n + 1 ∧ Keeps [cb, nb] w3 wr) (fun _ _ v _ => L.length - (intOf v).toNat)
  case atStart => exact ⟨0, 0, L.length, _, by omega, by omega, rfl, rfl, by simp, HS.out.2.1, by rw [HSUB.out]; exact HG.out.1, rfl, Keeps.refl _ _⟩
  case round =>
    obtain ⟨k, lo, m0, c, hkm, hlk, rfl, rfl, rfl, hC, hch, hcn, hK⟩ := hrel
    by_cases hlt : k < L.length
    · have hlt' : (k : Int) < (L.length : Int) := by omega
      obtain ⟨m, rfl⟩ : ∃ m, m0 = m + 1 := ⟨m0 - 1, by omega⟩
      obtain ⟨h, hh⟩ : ∃ h : Nat, h = lo + m := ⟨_, rfl⟩
      have hhi : (lo : Int) + ((m + 1 : Nat) : Int) - 1 = (h : Int) := by omega
      rw [hhi]
      obtain ⟨x, hx⟩ : ∃ x, L[lo]? = some x := ⟨_, List.getElem?_eq_getElem (by omega)⟩
      obtain ⟨y, hy⟩ : ∃ y, L[h]? = some y := ⟨_, List.getElem?_eq_getElem (by omega)⟩
      have hsl : (sub L lo (m + 1)).length = m + 1 := sub_len (by omega)
      have hx0 : (sub L lo (m + 1))[0]? = some x := by rw [sub_get, if_pos (by omega)]; exact hx
      have hym : (sub L lo (m + 1))[m]? = some y := by rw [sub_get, if_pos (by omega), ← hh]; exact hy
      have q1 := hC.c1
      have q2 := hC.c2
      have q4 := hC.c4
      rw [hch.head, nth_some hx0] at q1
      have hpl : prv (sub L lo (m + 1)) (m + 1) = y := by unfold prv; rw [if_neg (by omega)]; exact nth_some hym
      rw [hch.tail, hsl, hpl] at q2
      rw [hch.size, hsl, show ((m + 1 : Nat) : Int) = (m : Int) + 1 by omega] at q4
      have hxn := hch.lt x (List.mem_of_getElem? hx0)
      have hyn := hch.lt y (List.mem_of_getElem? hym)
      rw [hcn] at hxn hyn
      obtain ⟨hne, ncap, q0, R⟩ := hC.row (by omega)
      rw [hcn] at q0 R
      obtain ⟨_, _, x2, x3, _⟩ := R.nodes
      have z2 := x2 x hxn
      have z3 := x3 y hyn
      rw [hch.prev 0 x hx0, show prv (sub L lo (m + 1)) 0 = -1 from rfl] at z2
      rw [hch.next m y hym, nth_ge (by omega)] at z3
      have ULx := fun W (HW : CacheAt W cb nb c) => unlink_at cb nb x c W HW (by omega) (hch.prev_ok hx0) (hch.next_ok hx0)
      have ULy := fun W (HW : CacheAt W cb nb c) => unlink_at cb nb y c W HW (by omega) (hch.prev_ok hym) (hch.next_ok hym)
      have Cx := hch.unlink hx0 (by omega)
      have Cy := hch.unlink hym (by omega)
      rw [sub_head] at Cx
      rw [sub_tail] at Cy
      have Ro4 := HS.out.1.keeps hK (by simp; exact ⟨hoc, hon⟩)
      have g0 := Ro4.ints lo (by omega)
      have g1 := Ro4.ints h (by omega)
      rw [nth_some hx] at g0
      rw [nth_some hy] at g1
      have HFL : Hid (InRow wr f1 f2 a1 fl 1 (fun j => .bool (fb j))) := (HF.out.keeps HS.out.2.2 (by simp)).keeps hK (by
        intro hl0
        have := HF.out.lt hl0
        simp; omega)
      have hxn' : (x : Int) < (n : Int) + 1 := by omega
      have hyn' : (y : Int) < (n : Int) + 1 := by omega
      have hlo' : (lo : Int) < (L.length : Int) := by omega
      have hh' : (h : Int) < (L.length : Int) := by omega
      have hsz : ((m : Int) + 1 != (h : Int) - (lo : Int) + 1) = false := by rw [show (h : Int) - (lo : Int) + 1 = (m : Int) + 1 by omega]; simp
      have HR : Hid (CacheAt wr cb nb c ∧ Keeps [cb, nb] w3 wr ∧ Ch (c.unlink x) (sub L (lo + 1) m) ∧ Ch (c.unlink y) (sub L lo m) ∧ c.n = n + 1 ∧ h = lo + m) := ⟨hC, hK, Cx, Cy, hcn, hh⟩
      have HUX : Hid _ := ULx
      have HUY : Hid _ := ULy
      have hkm' : k + (m + 1) ≤ L.length := by omega
      have HKM : Hid (k + (m + 1) = L.length) := hkm
      clear hC hK hch hx hy hx0 hym hpl R x2 x3 ULx ULy Cx Cy Ro4 hhi hsl hcn hh hkm
      by_cases hkf : k < fl
      · have hkf' : (k : Int) < (fl : Int) := by omega
        have FF := HFL.out
        obtain rfl := FF.addr (by omega)
        have g2 := FF.cell k (by omega)
        clear FF
        cases hfb : fb k
        · rw [hfb] at g2
          clear hfb
          go_wp2_with fail
          go_quiet (fail)
          go_wp2_with fail
          go_quiet (fail)
          go_wp2_with fail
          refine (HUX.out _ (HR.out.1.drewN _)).mono ?_
          rintro e w5 ⟨rfl, H5, K5, S5⟩
          have KQ := (HR.out.2.1.drewN _).trans K5 (cs := [cb, nb]) (bs := [cb, nb]) (by simp)
          have FIN : Hid (CacheAt w5 cb nb (c.unlink x) ∧ Keeps [cb, nb] w3 w5) := ⟨H5, KQ⟩
          clear H5 K5 S5 KQ
          go_wp2
          go_roundw
          case rel =>
            have hkm := HKM.out
            have hhm := HR.out.2.2.2.2.2
            exact ⟨k + 1, lo + 1, m, _, by omega, by omega, by go_num, by go_num, by rw [show (((lo + 1 : Nat) : Int) + (m : Int) - 1) = (h : Int) by omega], FIN.out.1, HR.out.2.2.1, HR.out.2.2.2.2.1, FIN.out.2⟩
          case measure => simp [intOf]; omega
        · rw [hfb] at g2
          clear hfb
          go_wp2_with fail
          go_quiet (fail)
          go_wp2_with fail
          go_quiet (fail)
          go_wp2_with fail
          refine (HUY.out _ (HR.out.1.drewN _)).mono ?_
          rintro e w5 ⟨rfl, H5, K5, S5⟩
          have KQ := (HR.out.2.1.drewN _).trans K5 (cs := [cb, nb]) (bs := [cb, nb]) (by simp)
          have FIN : Hid (CacheAt w5 cb nb (c.unlink y) ∧ Keeps [cb, nb] w3 w5) := ⟨H5, KQ⟩
          clear H5 K5 S5 KQ
          go_wp2
          go_roundw
          case rel =>
            have hkm := HKM.out
            have hhm := HR.out.2.2.2.2.2
            exact ⟨k + 1, lo, m, _, by omega, by omega, by go_num, rfl, by rw [show ((lo : Int) + (m : Int) - 1) = (h : Int) - 1 by omega], FIN.out.1, HR.out.2.2.2.1, HR.out.2.2.2.2.1, FIN.out.2⟩
          case measure => simp [intOf]; omega
      · have hkf' : ¬ (k : Int) < (fl : Int) := by omega
        go_wp2_with fail
        go_quiet (fail)
        go_wp2_with fail
        go_quiet (fail)
        go_wp2_with fail
        refine (HUX.out _ (HR.out.1.drewN _)).mono ?_
        rintro e w5 ⟨rfl, H5, K5, S5⟩
        have KQ := (HR.out.2.1.drewN _).trans K5 (cs := [cb, nb]) (bs := [cb, nb]) (by simp)
        have FIN : Hid (CacheAt w5 cb nb (c.unlink x) ∧ Keeps [cb, nb] w3 w5) := ⟨H5, KQ⟩
        clear H5 K5 S5 KQ
        go_wp2
        go_roundw
        case rel =>
          have hkm := HKM.out
          have hhm := HR.out.2.2.2.2.2
          exact ⟨k + 1, lo + 1, m, _, by omega, by omega, by go_num, by go_num, by rw [show (((lo + 1 : Nat) : Int) + (m : Int) - 1) = (h : Int) by omega], FIN.out.1, HR.out.2.2.1, HR.out.2.2.2.2.1, FIN.out.2⟩
        case measure => simp [intOf]; omega
    · have hlt' : ¬ (k : Int) < (L.length : Int) := by omega
      obtain rfl : m0 = 0 := by omega
      have q1 := hC.c1
      have q2 := hC.c2
      have q4 := hC.c4
      have es : sub L lo 0 = [] := by unfold sub; simp
      rw [es] at hch
      rw [hch.head, show nth [] 0 = -1 from rfl] at q1
      rw [hch.tail, show prv [] ([] : List Nat).length = -1 from rfl] at q2
      rw [hch.size, show ((([] : List Nat).length : Nat) : Int) = 0 from rfl] at q4
      have FIN : Hid (Keeps [cb, nb] w3 wr) := hK
      clear hC hch hK es
      go_wp2
      go_ret
      exact ⟨rfl, (HS.out.2.2.trans FIN.out (cs := [cb, nb]) (bs := []) (by simp; omega)).below (Nat.le_refl _) (by simp)⟩
end Go.Proofs.Ymbrdv
