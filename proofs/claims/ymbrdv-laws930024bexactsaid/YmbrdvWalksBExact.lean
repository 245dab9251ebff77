/- The law BExact: her walk. -/
import Derived.Test.YmbrdvChain
import Derived.BigQuiet
import Derived.Deep.DeepCutAuto
namespace Go.Proofs.Ymbrdv
open Go.RowKit

/-- two slots that hold the same compare as equal -/
theorem node_same (k v p x : Int) (w : World) : (binOp .neq 38 (.agg #[.int .i64 k, .int .i64 v, .int .i64 p, .int .i64 x]) (.agg #[.int .i64 k, .int .i64 v, .int .i64 p, .int .i64 x])).run Ydvm.prog w = .ok (.bool false) w := by
  rw [run_neq_struct]
  have : (Op.equalIn 10000 38 (.agg #[.int .i64 k, .int .i64 v, .int .i64 p, .int .i64 x]) (.agg #[.int .i64 k, .int .i64 v, .int .i64 p, .int .i64 x])).run Ydvm.prog w = .ok true w := by
    simp [go_sem, Ydvm.underlying38, Ydvm.underlying36]
  rw [this]; rfl

/-- what a drop leaves of the chain -/
structure Dropped (n m i : Nat) (V : Nat → Int) (D : Cs) : Prop where
  head : D.head = if n = 1 then -1 else if i = 0 then 1 else 0
  tail : D.tail = if n = 1 then -1 else if i + 1 = n then (n : Int) - 2 else (n : Int) - 1
  free : D.free = i
  size : D.size = (n : Int) - 1
  cap : D.cap = (n : Int) + m
  cn : D.n = n + m
  key : ∀ k, D.key k = if k = i then 0 else if k < n then (k : Int) else 0
  val : ∀ k, D.val k = if k = i then 0 else if k < n then V k else 0
  prev : ∀ k, D.prev k = if k = i then -1 else if k = i + 1 ∧ i + 1 < n then (i : Int) - 1 else if k < n then (k : Int) - 1 else -1
  next : ∀ k, D.next k = if k = i then (if 0 < m then (n : Int) else -1) else if k + 1 = i then (if i + 1 = n then -1 else (i : Int) + 1) else if k < n then (if k + 1 = n then -1 else (k : Int) + 1) else if k + 1 = n + m then -1 else (k : Int) + 1

theorem dropped (n m i : Nat) (V : Nat → Int) (hi : i < n) (hn : n ≤ 1024) : Dropped n m i V ((chainC n m V).drop i) := by
  have hp : (chainC n m V).prev i = (i : Int) - 1 := if_pos hi
  have hx : (chainC n m V).next i = if i + 1 = n then -1 else (i : Int) + 1 := if_pos hi
  have hw : wrap64 ((n : Int) - 1) = (n : Int) - 1 := wrap64_id _ (by omega) (by omega)
  refine ⟨?_, ?_, rfl, hw, rfl, rfl, fun k => ?_, fun k => ?_, fun k => ?_, fun k => ?_⟩
  · show (if (chainC n m V).prev i = -1 then (chainC n m V).next i else 0) = _
    rw [hp, hx]
    (repeat' split) <;> omega
  · show (if (chainC n m V).next i = -1 then (chainC n m V).prev i else (n : Int) - 1) = _
    rw [hp, hx]
    (repeat' split) <;> omega
  · rfl
  · rfl
  · show upd (if (chainC n m V).next i = -1 then (chainC n m V).prev else upd (chainC n m V).prev ((chainC n m V).next i).toNat ((chainC n m V).prev i)) i (-1) k = _
    rw [hp, hx]
    by_cases h1 : k = i
    · rw [h1, upd_same, if_pos rfl]
    · rw [upd_other _ _ _ _ h1, if_neg h1]
      by_cases h2 : i + 1 = n
      · rw [if_pos h2, if_pos rfl, if_neg (by omega)]; rfl
      · rw [if_neg h2, if_neg (by omega), show ((i : Int) + 1).toNat = i + 1 by omega]
        by_cases h3 : k = i + 1
        · rw [h3, upd_same, if_pos ⟨rfl, by omega⟩]
        · rw [upd_other _ _ _ _ h3, if_neg (by omega)]; rfl
  · show upd (if (chainC n m V).prev i = -1 then (chainC n m V).next else upd (chainC n m V).next ((chainC n m V).prev i).toNat ((chainC n m V).next i)) i (if 0 < m then (n : Int) else -1) k = _
    rw [hp, hx]
    by_cases h1 : k = i
    · rw [h1, upd_same, if_pos rfl]
    · rw [upd_other _ _ _ _ h1, if_neg h1]
      by_cases h2 : i = 0
      · rw [if_pos (by omega), if_neg (by omega)]; rfl
      · rw [if_neg (by omega), show ((i : Int) - 1).toNat = i - 1 by omega]
        by_cases h3 : k + 1 = i
        · obtain rfl : i = k + 1 := by omega
          rw [show k + 1 - 1 = k from rfl, upd_same, if_pos rfl]
        · rw [upd_other _ _ _ _ (by omega), if_neg h3]; rfl
theorem rem_nat (a : Int) (n : Nat) (hn : 0 < n) : ∃ i : Nat, a % (n : Int) = i ∧ i < n := ⟨(a % (n : Int)).toNat, by have := Int.emod_nonneg a (show (n : Int) ≠ 0 by omega); omega, by have := Int.emod_lt_of_pos a (show (0 : Int) < n by omega); have := Int.emod_nonneg a (show (n : Int) ≠ 0 by omega); omega⟩

set_option maxRecDepth 100000 in
set_option maxHeartbeats 4000000 in
theorem walk_BExact (w : World) (a0 : Option Addr) (n cap : Nat) (V : Nat → Int) (hz : InInts .i64 w a0 n V) (a1 : Int) (w1 : (Lit.int .u16 a1).wf = true) (a2 : Int) (w2 : (Lit.int .u8 a2).wf = true) :
    Calls Ydvm.prog 6 #[.slice a0 n cap, .int .u16 a1, .int .u8 a2] w fun e w' => e = .returned (.bool true) ∧ Below w.heap.size w w' := by
  by_cases h0 : n = 0
  · subst h0
    go_enter Ydvm.func6, Ydvm.ntmps6
    go_wp2
    go_ret
    exact ⟨rfl, Below.refl _ _⟩
  have hb0 : ((n : Int) == 0) = false := beq_eq_false_iff_ne.2 (by omega)
  by_cases hbig : 1024 < n
  · have hbig' : (1024 : Int) < (n : Int) := by omega
    go_enter Ydvm.func6, Ydvm.ntmps6
    go_wp2
    go_ret
    exact ⟨rfl, Below.refl _ _⟩
  have hlen : (n : Int) ≤ 1024 := by omega
  obtain ⟨⟨b, off, hE⟩, _⟩ := hz
  obtain ⟨h10, h11⟩ := wf_u16 w1
  obtain ⟨h20, h21⟩ := wf_u8 w2
  obtain ⟨i, hi0, hi1⟩ := rem_nat a1 n (by omega)
  obtain ⟨m, hm0, hm1⟩ := rem_nat a2 8 (by omega)
  have hm2 : a2 % 8 = (m : Int) := hm0
  have hm3 : (m : Int) < 8 := by omega
  have hi2 : (i : Int) < (n : Int) := by omega
  obtain rfl := hE.addr (by omega)
  have hbw := hE.lt (by omega)
  have HE : Hid _ := hE
  have bch := bchain_at w b off (some ⟨b, off, none⟩) n cap m V hE (by omega) (by omega)
  clear hE w1 w2 hm0
  go_enter Ydvm.func6, Ydvm.ntmps6
  go_wp2_with fail
  refine bch.mono ?_
  rintro e w1 ⟨cb, nb, rfl, H1, hcb, hnb, K1⟩
  clear bch
  have hg : (List.range n)[i]? = some i := List.getElem?_range (by omega)
  have ch0 := chainC_ch n m (by omega) V
  have DR := drop_at cb nb i _ w1 H1 (show i < n + m by omega) (ch0.prev_ok hg) (ch0.next_ok hg)
  rw [show (chainC n m V).key i = (i : Int) from if_pos hi1, show (chainC n m V).val i = V i from if_pos hi1] at DR
  have s1 := K1.size
  have DD := dropped n m i V hi1 (by omega)
  generalize (chainC n m V).drop i = D at *
  clear ch0 H1 hg
  go_wp2_with fail
  refine DR.mono ?_
  rintro e w2 ⟨rfl, H2, K2⟩
  clear DR
  have E2 := (HE.out.keeps K1 (by simp)).keeps K2 (by simp; omega)
  have g0 := E2.cell i (by omega)
  have l1 := H2.lt
  have l2 := H2.nlt
  have KA := K1.trans K2 (cs := [cb, nb]) (bs := []) (by simp; omega)
  have HA : Hid (Keeps [] w w2 ∧ CacheAt w2 cb nb D ∧ Dropped n m i V D) := ⟨KA, H2, DD⟩
  have l3 := E2.lt (by omega)
  clear K1 K2 KA H2 E2 DD
  go_wp2_with fail
  go_quiet (fail)
  go_upto_if 53 with fail
  go_cut [12] (fun h wx => h = .int .i64 (if i = 0 then 1 else 0) ∧ wx = ((w2.alloc (.cells #[.int .i64 (i : Int), .int .i64 (V i)] 36)).drewN nq))
  case first =>
    by_cases hi : i = 0
    · have hib : ((i : Int) == 0) = true := beq_iff_eq.2 (by omega)
      have HI : Hid (i = 0) := hi
      clear hi
      go_wp2
      go_meet
      exact ⟨by rw [if_pos HI.out], rfl⟩
    · have hib : ((i : Int) == 0) = false := beq_eq_false_iff_ne.2 (by omega)
      go_wp2
      go_meet
      exact ⟨by rw [if_neg hi], rfl⟩
  case rest =>
    obtain ⟨rfl, rfl⟩ := hcut
    obtain ⟨hd, hhd⟩ : ∃ hd : Int, hd = if i = 0 then 1 else 0 := ⟨_, rfl⟩
    rw [← hhd]
    have HH : Hid (hd = if i = 0 then 1 else 0) := hhd
    clear hhd
    go_upto_if 59 with fail
    go_cut [13] (fun t wx => t = .int .i64 (if i + 1 = n then (n : Int) - 2 else (n : Int) - 1) ∧ wx = ((w2.alloc (.cells #[.int .i64 (i : Int), .int .i64 (V i)] 36)).drewN nq))
    case first =>
      by_cases hi : i + 1 = n
      · have hib : ((i : Int) == (n : Int) - 1) = true := beq_iff_eq.2 (by omega)
        have HI : Hid (i + 1 = n) := hi
        clear hi
        go_wp2
        go_meet
        exact ⟨by rw [if_pos HI.out], rfl⟩
      · have hib : ((i : Int) == (n : Int) - 1) = false := beq_eq_false_iff_ne.2 (by omega)
        go_wp2
        go_meet
        exact ⟨by rw [if_neg hi], rfl⟩
    case rest =>
      obtain ⟨rfl, rfl⟩ := hcut
      obtain ⟨tl, htl⟩ : ∃ tl : Int, tl = if i + 1 = n then (n : Int) - 2 else (n : Int) - 1 := ⟨_, rfl⟩
      rw [← htl]
      have HT : Hid (tl = if i + 1 = n then (n : Int) - 2 else (n : Int) - 1) := htl
      clear htl
      go_upto_if 63 with fail
      go_cut [12, 13] (fun h t wx => h = .int .i64 D.head ∧ t = .int .i64 D.tail ∧ wx = ((w2.alloc (.cells #[.int .i64 (i : Int), .int .i64 (V i)] 36)).drewN nq))
      case first =>
        by_cases hn1 : n = 1
        · have hib : ((n : Int) == 1) = true := beq_iff_eq.2 (by omega)
          have HI : Hid (n = 1) := hn1
          clear hn1
          go_wp2
          go_meet
          exact ⟨by rw [HA.out.2.2.head, if_pos HI.out], by rw [HA.out.2.2.tail, if_pos HI.out], rfl⟩
        · have hib : ((n : Int) == 1) = false := beq_eq_false_iff_ne.2 (by omega)
          go_wp2
          go_meet
          exact ⟨by rw [HA.out.2.2.head, if_neg hn1, HH.out], by rw [HA.out.2.2.tail, if_neg hn1, HT.out], rfl⟩
      case rest =>
        obtain ⟨rfl, rfl, rfl⟩ := hcut
        have H3 := (HA.out.2.1.alloc (.cells #[.int .i64 (i : Int), .int .i64 (V i)] 36)).drewN nq
        have K3 : Keeps [] w _ := (HA.out.1.alloc (.cells #[.int .i64 (i : Int), .int .i64 (V i)] 36)).drewN nq
        have DD := HA.out.2.2
        clear hd tl HH HT HA g0
        generalize (w2.alloc (.cells #[.int .i64 (i : Int), .int .i64 (V i)] 36)).drewN nq = w3 at *
        obtain ⟨hne, ncap, q0, RR⟩ := H3.row (by rw [DD.cn]; omega)
        rw [DD.cn] at q0 RR
        have q1 := H3.c1
        have q2 := H3.c2
        have q3 := H3.c3
        have q4 := H3.c4
        have q5 := H3.c5
        rw [DD.free] at q3
        rw [DD.size] at q4
        rw [DD.cap] at q5
        have HR : Hid (RowAt w3 nb 38 4 (n + m) ncap (ncell D.key D.val D.prev D.next) ∧ Keeps [] w w3 ∧ w3.cell? ⟨cb, 0, none⟩ = some (.slice (some ⟨nb, 0, none⟩) (n + m) ncap)) := ⟨RR, K3, q0⟩
        have HD : Hid (Dropped n m i V D) := DD
        have l4 := H3.lt
        clear RR K3 H3 DD
        go_wp2
        clear q0 q1 q2 q3 q4 q5
        have hns := node_same
        go_loopw [14] (fun v wq => ∃ k : Nat, k ≤ n + m ∧ v = .int .i64 k ∧ Keeps [] w3 wq) (fun v _ => n + m - (intOf v).toNat)
        case atStart => exact ⟨0, by omega, rfl, Keeps.refl _ _⟩
        case round =>
          obtain ⟨k, hk, rfl, Kq⟩ := hrel
          by_cases hkl : k < n + m
          · have hkl' : (k : Int) < (n : Int) + (m : Int) := by omega
            obtain ⟨x0, x1, x2, x3, _⟩ := (HR.out.1.keeps Kq (by simp)).nodes
            have z0 := x0 k hkl
            have z1 := x1 k hkl
            have z2 := x2 k hkl
            have z3 := x3 k hkl
            have q0 := Kq.cell HR.out.2.2 (by simp)
            rw [HD.out.key] at z0
            rw [HD.out.val] at z1
            rw [HD.out.prev] at z2
            rw [HD.out.next] at z3
            have E3 := (HE.out.keeps HR.out.2.1 (by simp)).keeps Kq (by simp)
            have g0 : k < n → wr.cell? ⟨b, off + k, none⟩ = some (.int .i64 (V k)) := fun h => E3.cell k (by omega)
            have HK : Hid (Keeps [] w3 wr) := Kq
            have hz1 : cb < wr.heap.size := Nat.lt_of_lt_of_le l4 Kq.size
            have hz2 : nb < wr.heap.size := Nat.lt_of_lt_of_le HR.out.1.lt Kq.size
            have hz3 : b < wr.heap.size := E3.lt (by omega)
            clear x0 x1 x2 x3 Kq E3
            by_cases hki : k = i
            · subst hki
              by_cases hm : 0 < m
              · have hmi : (0 : Int) < (m : Int) := by omega
                rw [show (if k = k then (0 : Int) else if k < n then (k : Int) else 0) = 0 by (repeat' split) <;> omega] at z0
                rw [show (if k = k then (0 : Int) else if k < n then V k else 0) = 0 by (repeat' split) <;> first | rfl | omega] at z1
                rw [show (if k = k then (-1 : Int) else if k = k + 1 ∧ k + 1 < n then (k : Int) - 1 else if k < n then (k : Int) - 1 else -1) = -1 by (repeat' split) <;> omega] at z2
                rw [show (if k = k then (if 0 < m then (n : Int) else -1) else if k + 1 = k then (if k + 1 = n then -1 else (k : Int) + 1) else if k < n then (if k + 1 = n then -1 else (k : Int) + 1) else if k + 1 = n + m then -1 else (k : Int) + 1) = (n : Int) by (repeat' split) <;> omega] at z3
                clear g0 
                go_wp2_with fail
                go_quiet (fail)
                go_wp2
                go_roundw
                case rel => exact ⟨k + 1, by omega, by go_num, (HK.out.alloc _).drewN _⟩
                case measure => simp [intOf]; omega
              · have hmi : ¬ (0 : Int) < (m : Int) := by omega
                rw [show (if k = k then (0 : Int) else if k < n then (k : Int) else 0) = 0 by (repeat' split) <;> omega] at z0
                rw [show (if k = k then (0 : Int) else if k < n then V k else 0) = 0 by (repeat' split) <;> first | rfl | omega] at z1
                rw [show (if k = k then (-1 : Int) else if k = k + 1 ∧ k + 1 < n then (k : Int) - 1 else if k < n then (k : Int) - 1 else -1) = -1 by (repeat' split) <;> omega] at z2
                rw [show (if k = k then (if 0 < m then (n : Int) else -1) else if k + 1 = k then (if k + 1 = n then -1 else (k : Int) + 1) else if k < n then (if k + 1 = n then -1 else (k : Int) + 1) else if k + 1 = n + m then -1 else (k : Int) + 1) = -1 by (repeat' split) <;> omega] at z3
                clear g0 
                go_wp2_with fail
                go_quiet (fail)
                go_wp2
                go_roundw
                case rel => exact ⟨k + 1, by omega, by go_num, (HK.out.alloc _).drewN _⟩
                case measure => simp [intOf]; omega
            · have hkb : ((k : Int) == (i : Int)) = false := beq_eq_false_iff_ne.2 (by omega)
              by_cases hkn : n ≤ k
              · have hkn' : (n : Int) ≤ (k : Int) := by omega
                by_cases hl : k + 1 = n + m
                · have hlb : ((k : Int) + 1 == (n : Int) + (m : Int)) = true := beq_iff_eq.2 (by omega)
                  rw [show (if k = i then (0 : Int) else if k < n then (k : Int) else 0) = 0 by (repeat' split) <;> omega] at z0
                  rw [show (if k = i then (0 : Int) else if k < n then V k else 0) = 0 by (repeat' split) <;> first | rfl | omega] at z1
                  rw [show (if k = i then (-1 : Int) else if k = i + 1 ∧ i + 1 < n then (i : Int) - 1 else if k < n then (k : Int) - 1 else -1) = -1 by (repeat' split) <;> omega] at z2
                  rw [show (if k = i then (if 0 < m then (n : Int) else -1) else if k + 1 = i then (if i + 1 = n then -1 else (i : Int) + 1) else if k < n then (if k + 1 = n then -1 else (k : Int) + 1) else if k + 1 = n + m then -1 else (k : Int) + 1) = -1 by (repeat' split) <;> omega] at z3
                  clear g0 hl
                  go_wp2_with fail
                  go_quiet (fail)
                  go_wp2
                  go_roundw
                  case rel => exact ⟨k + 1, by omega, by go_num, (HK.out.alloc _).drewN _⟩
                  case measure => simp [intOf]; omega
                · have hlb : ((k : Int) + 1 == (n : Int) + (m : Int)) = false := beq_eq_false_iff_ne.2 (by omega)
                  rw [show (if k = i then (0 : Int) else if k < n then (k : Int) else 0) = 0 by (repeat' split) <;> omega] at z0
                  rw [show (if k = i then (0 : Int) else if k < n then V k else 0) = 0 by (repeat' split) <;> first | rfl | omega] at z1
                  rw [show (if k = i then (-1 : Int) else if k = i + 1 ∧ i + 1 < n then (i : Int) - 1 else if k < n then (k : Int) - 1 else -1) = -1 by (repeat' split) <;> omega] at z2
                  rw [show (if k = i then (if 0 < m then (n : Int) else -1) else if k + 1 = i then (if i + 1 = n then -1 else (i : Int) + 1) else if k < n then (if k + 1 = n then -1 else (k : Int) + 1) else if k + 1 = n + m then -1 else (k : Int) + 1) = (k : Int) + 1 by (repeat' split) <;> omega] at z3
                  clear g0 hl
                  go_wp2_with fail
                  go_quiet (fail)
                  go_wp2
                  go_roundw
                  case rel => exact ⟨k + 1, by omega, by go_num, (HK.out.alloc _).drewN _⟩
                  case measure => simp [intOf]; omega
              · have hkn' : ¬ (n : Int) ≤ (k : Int) := by omega
                have hkn2 : (k : Int) < (n : Int) := by omega
                by_cases ha : k = i + 1
                · have hab : ((k : Int) - 1 == (i : Int)) = true := beq_iff_eq.2 (by omega)
                  have hcb2 : ((k : Int) + 1 == (i : Int)) = false := beq_eq_false_iff_ne.2 (by omega)
                  by_cases hx : n ≤ k + 1
                  · have hx' : (n : Int) ≤ (k : Int) + 1 := by omega
                    rw [show (if k = i then (0 : Int) else if k < n then (k : Int) else 0) = (k : Int) by (repeat' split) <;> omega] at z0
                    rw [if_neg (by omega), if_pos (by omega)] at z1
                    rw [show (if k = i then (-1 : Int) else if k = i + 1 ∧ i + 1 < n then (i : Int) - 1 else if k < n then (k : Int) - 1 else -1) = (k : Int) - 2 by (repeat' split) <;> omega] at z2
                    rw [show (if k = i then (if 0 < m then (n : Int) else -1) else if k + 1 = i then (if i + 1 = n then -1 else (i : Int) + 1) else if k < n then (if k + 1 = n then -1 else (k : Int) + 1) else if k + 1 = n + m then -1 else (k : Int) + 1) = -1 by (repeat' split) <;> omega] at z3
                    have g1 := g0 (by omega)
                    clear g0 ha
                    go_wp2_with fail
                    go_quiet (fail)
                    go_wp2
                    go_roundw
                    case rel => exact ⟨k + 1, by omega, by go_num, (HK.out.alloc _).drewN _⟩
                    case measure => simp [intOf]; omega
                  · have hx' : ¬ (n : Int) ≤ (k : Int) + 1 := by omega
                    rw [show (if k = i then (0 : Int) else if k < n then (k : Int) else 0) = (k : Int) by (repeat' split) <;> omega] at z0
                    rw [if_neg (by omega), if_pos (by omega)] at z1
                    rw [show (if k = i then (-1 : Int) else if k = i + 1 ∧ i + 1 < n then (i : Int) - 1 else if k < n then (k : Int) - 1 else -1) = (k : Int) - 2 by (repeat' split) <;> omega] at z2
                    rw [show (if k = i then (if 0 < m then (n : Int) else -1) else if k + 1 = i then (if i + 1 = n then -1 else (i : Int) + 1) else if k < n then (if k + 1 = n then -1 else (k : Int) + 1) else if k + 1 = n + m then -1 else (k : Int) + 1) = (k : Int) + 1 by (repeat' split) <;> omega] at z3
                    have g1 := g0 (by omega)
                    clear g0 ha
                    go_wp2_with fail
                    go_quiet (fail)
                    go_wp2
                    go_roundw
                    case rel => exact ⟨k + 1, by omega, by go_num, (HK.out.alloc _).drewN _⟩
                    case measure => simp [intOf]; omega
                · have hab : ((k : Int) - 1 == (i : Int)) = false := beq_eq_false_iff_ne.2 (by omega)
                  by_cases hc : k + 1 = i
                  · have hcb2 : ((k : Int) + 1 == (i : Int)) = true := beq_iff_eq.2 (by omega)
                    by_cases hx : n ≤ k + 2
                    · have hx' : (n : Int) ≤ (k : Int) + 2 := by omega
                      rw [show (if k = i then (0 : Int) else if k < n then (k : Int) else 0) = (k : Int) by (repeat' split) <;> omega] at z0
                      rw [if_neg (by omega), if_pos (by omega)] at z1
                      rw [show (if k = i then (-1 : Int) else if k = i + 1 ∧ i + 1 < n then (i : Int) - 1 else if k < n then (k : Int) - 1 else -1) = (k : Int) - 1 by (repeat' split) <;> omega] at z2
                      rw [show (if k = i then (if 0 < m then (n : Int) else -1) else if k + 1 = i then (if i + 1 = n then -1 else (i : Int) + 1) else if k < n then (if k + 1 = n then -1 else (k : Int) + 1) else if k + 1 = n + m then -1 else (k : Int) + 1) = -1 by (repeat' split) <;> omega] at z3
                      have g1 := g0 (by omega)
                      clear g0 hc
                      go_wp2_with fail
                      go_quiet (fail)
                      go_wp2
                      go_roundw
                      case rel => exact ⟨k + 1, by omega, by go_num, (HK.out.alloc _).drewN _⟩
                      case measure => simp [intOf]; omega
                    · have hx' : ¬ (n : Int) ≤ (k : Int) + 2 := by omega
                      rw [show (if k = i then (0 : Int) else if k < n then (k : Int) else 0) = (k : Int) by (repeat' split) <;> omega] at z0
                      rw [if_neg (by omega), if_pos (by omega)] at z1
                      rw [show (if k = i then (-1 : Int) else if k = i + 1 ∧ i + 1 < n then (i : Int) - 1 else if k < n then (k : Int) - 1 else -1) = (k : Int) - 1 by (repeat' split) <;> omega] at z2
                      rw [show (if k = i then (if 0 < m then (n : Int) else -1) else if k + 1 = i then (if i + 1 = n then -1 else (i : Int) + 1) else if k < n then (if k + 1 = n then -1 else (k : Int) + 1) else if k + 1 = n + m then -1 else (k : Int) + 1) = (k : Int) + 2 by (repeat' split) <;> omega] at z3
                      have g1 := g0 (by omega)
                      clear g0 hc
                      go_wp2_with fail
                      go_quiet (fail)
                      go_wp2
                      go_roundw
                      case rel => exact ⟨k + 1, by omega, by go_num, (HK.out.alloc _).drewN _⟩
                      case measure => simp [intOf]; omega
                  · have hcb2 : ((k : Int) + 1 == (i : Int)) = false := beq_eq_false_iff_ne.2 (by omega)
                    by_cases hx : n ≤ k + 1
                    · have hx' : (n : Int) ≤ (k : Int) + 1 := by omega
                      rw [show (if k = i then (0 : Int) else if k < n then (k : Int) else 0) = (k : Int) by (repeat' split) <;> omega] at z0
                      rw [if_neg (by omega), if_pos (by omega)] at z1
                      rw [show (if k = i then (-1 : Int) else if k = i + 1 ∧ i + 1 < n then (i : Int) - 1 else if k < n then (k : Int) - 1 else -1) = (k : Int) - 1 by (repeat' split) <;> omega] at z2
                      rw [show (if k = i then (if 0 < m then (n : Int) else -1) else if k + 1 = i then (if i + 1 = n then -1 else (i : Int) + 1) else if k < n then (if k + 1 = n then -1 else (k : Int) + 1) else if k + 1 = n + m then -1 else (k : Int) + 1) = -1 by (repeat' split) <;> omega] at z3
                      have g1 := g0 (by omega)
                      clear g0 
                      go_wp2_with fail
                      go_quiet (fail)
                      go_wp2
                      go_roundw
                      case rel => exact ⟨k + 1, by omega, by go_num, (HK.out.alloc _).drewN _⟩
                      case measure => simp [intOf]; omega
                    · have hx' : ¬ (n : Int) ≤ (k : Int) + 1 := by omega
                      rw [show (if k = i then (0 : Int) else if k < n then (k : Int) else 0) = (k : Int) by (repeat' split) <;> omega] at z0
                      rw [if_neg (by omega), if_pos (by omega)] at z1
                      rw [show (if k = i then (-1 : Int) else if k = i + 1 ∧ i + 1 < n then (i : Int) - 1 else if k < n then (k : Int) - 1 else -1) = (k : Int) - 1 by (repeat' split) <;> omega] at z2
                      rw [show (if k = i then (if 0 < m then (n : Int) else -1) else if k + 1 = i then (if i + 1 = n then -1 else (i : Int) + 1) else if k < n then (if k + 1 = n then -1 else (k : Int) + 1) else if k + 1 = n + m then -1 else (k : Int) + 1) = (k : Int) + 1 by (repeat' split) <;> omega] at z3
                      have g1 := g0 (by omega)
                      clear g0 
                      go_wp2_with fail
                      go_quiet (fail)
                      go_wp2
                      go_roundw
                      case rel => exact ⟨k + 1, by omega, by go_num, (HK.out.alloc _).drewN _⟩
                      case measure => simp [intOf]; omega
          · have hkl' : ¬ (k : Int) < (n : Int) + (m : Int) := by omega
            go_wp2
            go_ret
            exact ⟨rfl, (HR.out.2.1.trans Kq (cs := []) (bs := []) (by simp)).below (Nat.le_refl _) (by simp)⟩
end Go.Proofs.Ymbrdv
