/- The law BRefill: her walk. -/
import Derived.Test.YmbrdvChain
import Derived.BigQuiet
namespace Go.Proofs.Ymbrdv
open Go.RowKit

/-- the place of slot k behind the slot i that has come to the head -/
def refP (i k : Nat) : Nat := if k ≤ i then k + 1 else k
theorem refP_get (n i k : Nat) (hk : k < n) (hne : k ≠ i) : (i :: (List.range n).eraseIdx i)[refP i k]? = some k := by
  unfold refP
  by_cases h : k ≤ i
  · rw [if_pos h, List.getElem?_cons_succ, List.getElem?_eraseIdx, if_pos (by omega), List.getElem?_range (by omega)]
  · rw [if_neg h]
    obtain ⟨j, rfl⟩ : ∃ j, k = j + 1 := ⟨k - 1, by omega⟩
    rw [List.getElem?_cons_succ, List.getElem?_eraseIdx, if_neg (by omega), List.getElem?_range (by omega)]

structure Refill (n i : Nat) (V : Nat → Int) (key val : Int) (P : Cs) : Prop where
  ch : Ch P (i :: (List.range n).eraseIdx i)
  head : P.head = i
  free : P.free = -1
  cn : P.n = n
  size : P.size = n
  first : P.ek 0 = key ∧ P.ev 0 = val
  others : ∀ k, k < n → k ≠ i → P.ek (refP i k) = k ∧ P.ev (refP i k) = V k

theorem refill (n i : Nat) (hi : i < n) (hn : n ≤ 1024) (V : Nat → Int) (key val : Int) (hk : key = i ∨ key = n) :
    Refill n i V key val (((chainC n 0 V).drop i).put key val) ∧ ((chainC n 0 V).drop i).putOut key val = (0, 0) ∧ ((chainC n 0 V).drop i).putOk key = false := by
  have I0 := chainC_inv n 0 (by omega) V
  have hg : (List.range n)[i]? = some i := List.getElem?_range (by omega)
  have hcn : (chainC n 0 V).n = n := rfl
  have I1 := I0.drop hg (by rw [hcn]; omega)
  have hkey : ∀ x, x < n → x ≠ i → ((chainC n 0 V).drop i).key x = x ∧ ((chainC n 0 V).drop i).val x = V x := fun x hx hne => by
    constructor
    · show upd (chainC n 0 V).key i 0 x = _
      rw [upd_other _ _ _ _ hne]; exact if_pos hx
    · show upd (chainC n 0 V).val i 0 x = _
      rw [upd_other _ _ _ _ hne]; exact if_pos hx
  have hmem : ∀ x ∈ (List.range n).eraseIdx i, x < n ∧ x ≠ i := fun x hx => by
    refine ⟨by simpa using List.mem_of_mem_eraseIdx hx, fun e => ?_⟩
    subst e
    exact eraseIdx_not_mem List.nodup_range hg hx
  have hno : ∀ x ∈ (List.range n).eraseIdx i, ((chainC n 0 V).drop i).key x ≠ key := fun x hx e => by
    obtain ⟨h1, h2⟩ := hmem x hx
    rw [(hkey x h1 h2).1] at e
    rcases hk with h | h <;> omega
  have hs := I1.ch.size
  rw [List.length_eraseIdx_of_lt (by simpa using hi), List.length_range] at hs
  have hcap : ((chainC n 0 V).drop i).cap = (n : Int) := by show (n : Int) + (0 : Nat) = _; omega
  have hfr : ((chainC n 0 V).drop i).free = (i : Int) := rfl
  have hf : ((chainC n 0 V).drop i).find key = -1 := by
    rcases I1.ch.find_cases key with ⟨_, h⟩ | ⟨k, x, _, hk', _, hkx, _⟩
    · exact h
    · exact absurd hkx (hno x (List.mem_of_getElem? hk'))
  have I2 := Inv.takeFill I1 (show ((chainC n 0 V).drop i).n ≤ 1000000 by show n + 0 ≤ _; omega) key val hno
  have hput : ((chainC n 0 V).drop i).put key val = ((chainC n 0 V).drop i).take.fill i key val := by
    unfold Cs.put
    rw [if_neg (by rw [hcap]; omega), if_pos hf, if_neg (by rw [hcap, hs]; omega)]
    unfold Cs.insert
    rw [if_neg (by rw [hfr]; omega), hfr, Int.toNat_natCast]
  have hlen : (i :: (List.range n).eraseIdx i).length = n := by rw [List.length_cons, List.length_eraseIdx_of_lt (by simpa using hi), List.length_range]; omega
  have hslot : ∀ (j x : Nat), (i :: (List.range n).eraseIdx i)[j]? = some x → (((chainC n 0 V).drop i).take.fill i key val).slot j = x := fun j x hx => by
    rw [I2.ch.slot j (Nat.le_of_lt (List.getElem?_eq_some_iff.1 hx).1), nth_some hx]
  have hK : (((chainC n 0 V).drop i).take.fill i key val).key = upd ((chainC n 0 V).drop i).key i key := by unfold Cs.fill; rw [pushFront_key]; rfl
  have hV : (((chainC n 0 V).drop i).take.fill i key val).val = upd ((chainC n 0 V).drop i).val i val := by unfold Cs.fill; rw [pushFront_val]; rfl
  refine ⟨?_, ?_, ?_⟩
  · rw [hput]
    refine ⟨I2.ch, ?_, ?_, ?_, ?_, ?_, ?_⟩
    · rw [I2.ch.head]; rfl
    · rw [I2.free]; rfl
    · unfold Cs.fill; rw [pushFront_n]; rfl
    · rw [I2.ch.size, hlen]
    · unfold Cs.ek Cs.ev
      rw [hslot 0 i rfl, Int.toNat_natCast, hK, hV, upd_same, upd_same]
      exact ⟨rfl, rfl⟩
    · intro k hk' hne
      unfold Cs.ek Cs.ev
      rw [hslot _ k (refP_get n i k hk' hne), Int.toNat_natCast, hK, hV, upd_other _ _ _ _ hne, upd_other _ _ _ _ hne]
      exact hkey k hk' hne
  · unfold Cs.putOut
    rw [if_neg (by rw [hcap]; omega), if_neg (fun h => by have := h.2; rw [hcap, hs] at this; omega)]
  · unfold Cs.putOk
    rw [if_neg (by rw [hcap]; omega)]
    exact decide_eq_false (fun h => by have := h.2; rw [hcap, hs] at this; omega)
theorem rem_nat (a : Int) (n : Nat) (hn : 0 < n) : ∃ i : Nat, a % (n : Int) = i ∧ i < n := ⟨(a % (n : Int)).toNat, by have := Int.emod_nonneg a (show (n : Int) ≠ 0 by omega); omega, by have := Int.emod_lt_of_pos a (show (0 : Int) < n by omega); have := Int.emod_nonneg a (show (n : Int) ≠ 0 by omega); omega⟩

set_option maxRecDepth 100000 in
set_option maxHeartbeats 4000000 in
theorem walk_BRefill (w : World) (a0 : Option Addr) (n cap : Nat) (V : Nat → Int) (hz : InInts .i64 w a0 n V) (a1 : Int) (w1 : (Lit.int .u16 a1).wf = true) (fresh : Bool) (val : Int) (_w3 : (Lit.int .i64 val).wf = true) :
    Calls Ydvm.prog 8 #[.slice a0 n cap, .int .u16 a1, .bool fresh, .int .i64 val] w fun e w' => e = .returned (.bool true) ∧ Below w.heap.size w w' := by
  by_cases h0 : n = 0
  · subst h0
    go_enter Ydvm.func8, Ydvm.ntmps8
    go_wp2
    go_ret
    exact ⟨rfl, Below.refl _ _⟩
  have hb0 : ((n : Int) == 0) = false := beq_eq_false_iff_ne.2 (by omega)
  by_cases hbig : 1024 < n
  · have hbig' : (1024 : Int) < (n : Int) := by omega
    go_enter Ydvm.func8, Ydvm.ntmps8
    go_wp2
    go_ret
    exact ⟨rfl, Below.refl _ _⟩
  have hlen : (n : Int) ≤ 1024 := by omega
  obtain ⟨⟨b, off, hE⟩, _⟩ := hz
  obtain ⟨h10, h11⟩ := wf_u16 w1
  obtain ⟨i, hi0, hi1⟩ := rem_nat a1 n (by omega)
  have hi2 : (i : Int) < (n : Int) := by omega
  obtain rfl := hE.addr (by omega)
  have hbw := hE.lt (by omega)
  have HE : Hid _ := hE
  have bch := bchain_at w b off (some ⟨b, off, none⟩) n cap 0 V hE (by omega) (by omega)
  rw [show ((0 : Nat) : Int) = 0 from rfl] at bch
  clear hE w1 _w3
  go_enter Ydvm.func8, Ydvm.ntmps8
  go_wp2_with fail
  refine bch.mono ?_
  rintro e w1 ⟨cb, nb, rfl, H1, hcb, hnb, K1⟩
  clear bch
  have hg : (List.range n)[i]? = some i := List.getElem?_range (by omega)
  have ch0 := chainC_ch n 0 (by omega) V
  have DR := drop_at cb nb i _ w1 H1 (show i < n + 0 by omega) (ch0.prev_ok hg) (ch0.next_ok hg)
  rw [show (chainC n 0 V).key i = (i : Int) from if_pos hi1, show (chainC n 0 V).val i = V i from if_pos hi1] at DR
  have I1 := (chainC_inv n 0 (by omega) V).drop hg (show n + 0 ≤ 1000000 by omega)
  have hs1 := I1.ch.size
  rw [List.length_eraseIdx_of_lt (by simpa using hi1), List.length_range, show ((n - 1 : Nat) : Int) = (n : Int) - 1 by omega] at hs1
  have s1 := K1.size
  have HREF : Hid _ := fun key hk => refill n i hi1 (by omega) V key val hk
  have HI1 : Hid _ := I1
  clear I1 ch0 H1
  go_wp2_with fail
  refine DR.mono ?_
  rintro e w2 ⟨rfl, H2, K2⟩
  clear DR
  have E2 := (HE.out.keeps K1 (by simp)).keeps K2 (by simp; omega)
  have g0 := E2.cell i (by omega)
  have q4 := H2.c4
  rw [hs1] at q4
  have l1 := H2.lt
  have l2 := H2.nlt
  have KA := K1.trans K2 (cs := [cb, nb]) (bs := []) (by simp; omega)
  have HA : Hid (Keeps [] w w2 ∧ CacheAt w2 cb nb ((chainC n 0 V).drop i)) := ⟨KA, H2⟩
  have l3 := E2.lt (by omega)
  clear K1 K2 KA H2 E2
  go_wp2_with fail
  go_quiet (fail)
  cases fresh
  · obtain ⟨RF, po, pk⟩ := HREF.out (i : Int) (.inl rfl)
    have PUT := Put_at cb nb (i : Int) val _ _ _ ((HA.out.2.alloc (.cells #[.int .i64 (i : Int), .int .i64 (V i)] 36)).drewN nq) HI1.out.ch (by rw [List.length_eraseIdx_of_lt (by simpa using hi1), List.length_range]; omega) (show n + 0 ≤ 1000000 by omega) HI1.out.free_ok
    unfold PutPost at PUT
    rw [po, pk] at PUT
    generalize ((chainC n 0 V).drop i).put (i : Int) val = P at *
    have KB : Keeps [] w ((w2.alloc (.cells #[.int .i64 (i : Int), .int .i64 (V i)] 36)).drewN nq) := (HA.out.1.alloc _).drewN nq
    clear po pk g0 q4
    go_wp2_with fail
    refine PUT.mono ?_
    rintro e w4 ⟨rfl, nb', H4, hnb', K4⟩
    clear PUT
    have KC := KB.trans K4 (cs := [cb, nb]) (bs := []) (by simp; omega)
    have s4 := K4.size
    simp at s4
    have hnb2 : w.heap.size ≤ nb' := by rcases hnb' with h | h; omega; simp at h; omega
    have H5 := H4.alloc (.cells #[.int .i64 0, .int .i64 0] 36)
    have KD := KC.alloc (.cells #[.int .i64 0, .int .i64 0] 36)
    have ORD := Order_at cb nb' P _ H5 (by rw [RF.size]; omega) (by rw [RF.size]; omega) RF.ch.slots
    rw [show P.size.toNat = n by rw [RF.size]; rfl] at ORD
    obtain ⟨hne, ncap, q0, _⟩ := H4.row (by rw [RF.cn]; omega)
    rw [RF.cn] at q0
    have q1 := H4.c1
    rw [RF.head] at q1
    have q3 := H4.c3
    rw [RF.free] at q3
    have l4 := H4.lt
    have l5 := H4.nlt
    clear KB K4 H4 H5 KC hnb'
    have HRF : Hid _ := RF
    have HKD : Hid _ := KD
    clear RF KD
    go_wp2_with fail
    refine ORD.mono ?_
    rintro e w5 ⟨ob, oc, rfl, R5, hob, K5⟩
    clear ORD q0 q1 q3
    have KE := HKD.out.trans K5 (cs := []) (bs := []) (by simp)
    obtain ⟨r0, r1⟩ := R5.ents 0 (by omega)
    rw [HRF.out.first.1] at r0
    rw [HRF.out.first.2] at r1
    simp only [Nat.zero_mul, Nat.zero_add] at r0 r1
    have h0n : (0 : Int) < (n : Int) := by omega
    have HR5 : Hid (RowAt w5 ob 36 2 n oc (ecell P.ek P.ev) ∧ Keeps [] w w5) := ⟨R5, KE⟩
    have hsz5 := KE.size
    clear R5 K5 KE
    go_wp2
    clear r0 r1
    go_loopw [17, 18] (fun p v wq => ∃ k : Nat, k ≤ n ∧ p = .int .i64 (refP i k : Nat) ∧ v = .int .i64 k ∧ Keeps [] w5 wq) (fun _ v _ => n - (intOf v).toNat)
    case atStart => exact ⟨0, by omega, by unfold refP; rw [if_pos (by omega)]; rfl, rfl, Keeps.refl _ _⟩
    case round =>
      obtain ⟨k, hk, rfl, rfl, Kq⟩ := hrel
      by_cases hkl : k < n
      · have hkl' : (k : Int) < (n : Int) := by omega
        by_cases hki : k = i
        · subst hki
          go_wp2
          go_roundw
          case rel => exact ⟨k + 1, by omega, by unfold refP; rw [if_pos (by omega), if_neg (by omega)], by go_num, Kq⟩
          case measure => simp [intOf]; omega
        · have hkb : ((k : Int) != (i : Int)) = true := by rw [bne_iff_ne]; omega
          obtain ⟨p, hp⟩ : ∃ p, p = refP i k := ⟨_, rfl⟩
          have hp1 : refP i (k + 1) = p + 1 := by rw [hp]; unfold refP; split <;> split <;> omega
          have hpn : p < n := by rw [hp]; unfold refP; split <;> omega
          have hpn' : (p : Int) < (n : Int) := by omega
          rw [← hp]
          obtain ⟨r0, r1⟩ := (HR5.out.1.keeps Kq (by simp)).ents p hpn
          obtain ⟨e1, e2⟩ := HRF.out.others k hkl hki
          rw [← hp] at e1 e2
          rw [e1] at r0
          rw [e2] at r1
          have E5 := (HE.out.keeps HR5.out.2 (by simp)).keeps Kq (by simp)
          have g0 := E5.cell k (by omega)
          have HX : Hid (refP i (k + 1) = p + 1 ∧ Keeps [] w5 wr) := ⟨hp1, Kq⟩
          clear e1 e2 hp hp1 Kq E5
          go_wp2_with fail
          go_quiet (fail)
          go_wp2
          go_roundw
          case rel => exact ⟨k + 1, by omega, by rw [HX.out.1]; go_num, by go_num, HX.out.2.drewN _⟩
          case measure => simp [intOf]; omega
      · have hkl' : ¬ (k : Int) < (n : Int) := by omega
        go_wp2
        go_ret
        exact ⟨rfl, (HR5.out.2.trans Kq (cs := []) (bs := []) (by simp)).below (Nat.le_refl _) (by simp)⟩
  · obtain ⟨RF, po, pk⟩ := HREF.out (n : Int) (.inr rfl)
    have PUT := Put_at cb nb (n : Int) val _ _ _ ((HA.out.2.alloc (.cells #[.int .i64 (i : Int), .int .i64 (V i)] 36)).drewN nq) HI1.out.ch (by rw [List.length_eraseIdx_of_lt (by simpa using hi1), List.length_range]; omega) (show n + 0 ≤ 1000000 by omega) HI1.out.free_ok
    unfold PutPost at PUT
    rw [po, pk] at PUT
    generalize ((chainC n 0 V).drop i).put (n : Int) val = P at *
    have KB : Keeps [] w ((w2.alloc (.cells #[.int .i64 (i : Int), .int .i64 (V i)] 36)).drewN nq) := (HA.out.1.alloc _).drewN nq
    clear po pk g0 q4
    go_wp2_with fail
    refine PUT.mono ?_
    rintro e w4 ⟨rfl, nb', H4, hnb', K4⟩
    clear PUT
    have KC := KB.trans K4 (cs := [cb, nb]) (bs := []) (by simp; omega)
    have s4 := K4.size
    simp at s4
    have hnb2 : w.heap.size ≤ nb' := by rcases hnb' with h | h; omega; simp at h; omega
    have H5 := H4.alloc (.cells #[.int .i64 0, .int .i64 0] 36)
    have KD := KC.alloc (.cells #[.int .i64 0, .int .i64 0] 36)
    have ORD := Order_at cb nb' P _ H5 (by rw [RF.size]; omega) (by rw [RF.size]; omega) RF.ch.slots
    rw [show P.size.toNat = n by rw [RF.size]; rfl] at ORD
    obtain ⟨hne, ncap, q0, _⟩ := H4.row (by rw [RF.cn]; omega)
    rw [RF.cn] at q0
    have q1 := H4.c1
    rw [RF.head] at q1
    have q3 := H4.c3
    rw [RF.free] at q3
    have l4 := H4.lt
    have l5 := H4.nlt
    clear KB K4 H4 H5 KC hnb'
    have HRF : Hid _ := RF
    have HKD : Hid _ := KD
    clear RF KD
    go_wp2_with fail
    refine ORD.mono ?_
    rintro e w5 ⟨ob, oc, rfl, R5, hob, K5⟩
    clear ORD q0 q1 q3
    have KE := HKD.out.trans K5 (cs := []) (bs := []) (by simp)
    obtain ⟨r0, r1⟩ := R5.ents 0 (by omega)
    rw [HRF.out.first.1] at r0
    rw [HRF.out.first.2] at r1
    simp only [Nat.zero_mul, Nat.zero_add] at r0 r1
    have h0n : (0 : Int) < (n : Int) := by omega
    have HR5 : Hid (RowAt w5 ob 36 2 n oc (ecell P.ek P.ev) ∧ Keeps [] w w5) := ⟨R5, KE⟩
    have hsz5 := KE.size
    clear R5 K5 KE
    go_wp2
    clear r0 r1
    go_loopw [17, 18] (fun p v wq => ∃ k : Nat, k ≤ n ∧ p = .int .i64 (refP i k : Nat) ∧ v = .int .i64 k ∧ Keeps [] w5 wq) (fun _ v _ => n - (intOf v).toNat)
    case atStart => exact ⟨0, by omega, by unfold refP; rw [if_pos (by omega)]; rfl, rfl, Keeps.refl _ _⟩
    case round =>
      obtain ⟨k, hk, rfl, rfl, Kq⟩ := hrel
      by_cases hkl : k < n
      · have hkl' : (k : Int) < (n : Int) := by omega
        by_cases hki : k = i
        · subst hki
          go_wp2
          go_roundw
          case rel => exact ⟨k + 1, by omega, by unfold refP; rw [if_pos (by omega), if_neg (by omega)], by go_num, Kq⟩
          case measure => simp [intOf]; omega
        · have hkb : ((k : Int) != (i : Int)) = true := by rw [bne_iff_ne]; omega
          obtain ⟨p, hp⟩ : ∃ p, p = refP i k := ⟨_, rfl⟩
          have hp1 : refP i (k + 1) = p + 1 := by rw [hp]; unfold refP; split <;> split <;> omega
          have hpn : p < n := by rw [hp]; unfold refP; split <;> omega
          have hpn' : (p : Int) < (n : Int) := by omega
          rw [← hp]
          obtain ⟨r0, r1⟩ := (HR5.out.1.keeps Kq (by simp)).ents p hpn
          obtain ⟨e1, e2⟩ := HRF.out.others k hkl hki
          rw [← hp] at e1 e2
          rw [e1] at r0
          rw [e2] at r1
          have E5 := (HE.out.keeps HR5.out.2 (by simp)).keeps Kq (by simp)
          have g0 := E5.cell k (by omega)
          have HX : Hid (refP i (k + 1) = p + 1 ∧ Keeps [] w5 wr) := ⟨hp1, Kq⟩
          clear e1 e2 hp hp1 Kq E5
          go_wp2_with fail
          go_quiet (fail)
          go_wp2
          go_roundw
          case rel => exact ⟨k + 1, by omega, by rw [HX.out.1]; go_num, by go_num, HX.out.2.drewN _⟩
          case measure => simp [intOf]; omega
      · have hkl' : ¬ (k : Int) < (n : Int) := by omega
        go_wp2
        go_ret
        exact ⟨rfl, (HR5.out.2.trans Kq (cs := []) (bs := []) (by simp)).below (Nat.le_refl _) (by simp)⟩
end Go.Proofs.Ymbrdv
