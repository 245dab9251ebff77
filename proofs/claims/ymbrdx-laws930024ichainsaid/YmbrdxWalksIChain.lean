/- The law IChain: her walk. -/
import Derived.Test.YmbrdxSame
import Derived.Test.YmbrdxNodes
import Derived.Test.YmbrdxRot
import Derived.Deep.DeepCutAuto
import Derived.Deep.CutBlock
import Derived.BigQuiet
import Derived.WalkLawsBesides
namespace Go.Proofs.Ymbrdx
open Go.RowKit

/-- a field of the slots when k places are filled -/
def rlay (s n : Nat) (g : Nat → Int) (d : Int) (k : Nat) : Nat → Int := lay (rp (s % n) n) n g (upd (part 0 fun _ => 0) n d) k
theorem rlay_step (s n : Nat) (g : Nat → Int) (d : Int) (k : Nat) (hk : k < n) (x : Int) (hx : x = g k) : upd (rlay s n g d k) (rs (s % n) n k) x = rlay s n g d (k + 1) := by
  subst hx
  have hf : s % n < n := Nat.mod_lt _ (by omega)
  refine lay_step g _ (rs_lt _ _ _ (by omega)) (rp_rs _ _ _ hf hk) (fun x hx e => ?_)
  rw [← e, rs_rp _ _ _ hf hx]
theorem rlay_full (s n : Nat) (g : Nat → Int) (d : Int) (j : Nat) (hj : j < n) : rlay s n g d n (rs (s % n) n j) = g j := by
  have hf : s % n < n := Nat.mod_lt _ (by omega)
  unfold rlay
  rw [lay_full g _ (rs_lt _ _ _ (by omega)) (by rw [rp_rs _ _ _ hf hj]; exact hj), rp_rs _ _ _ hf hj]
/-- the slots' fields when k places are filled -/
def rcell (s n : Nat) (K V : Nat → Int) (k : Nat) : Nat → Value := ncell (rlay s n K 0 k) (rlay s n V 0 k) (rlay s n (prv (ring s n)) (-1) k) (rlay s n (fun j => nth (ring s n) (j + 1)) (-1) k)
theorem rrow_step {w : World} {b cap s n k : Nat} {K V : Nat → Int} (h : RowAt w b 28 4 (n + 1) cap (rcell s n K V k)) (hk : k < n) (q : Nat) (hq : q = rs (s % n) n k) (a0 a1 a2 a3 : Int) (h0 : a0 = K k) (h1 : a1 = V k) (h2 : a2 = prv (ring s n) k) (h3 : a3 = nth (ring s n) (k + 1)) :
    RowAt ((((w.setCell ⟨b, q * 4, none⟩ (.int .i64 a0)).setCell ⟨b, q * 4 + 1, none⟩ (.int .i64 a1)).setCell ⟨b, q * 4 + 2, none⟩ (.int .i64 a2)).setCell ⟨b, q * 4 + 3, none⟩ (.int .i64 a3)) b 28 4 (n + 1) cap (rcell s n K V (k + 1)) := by
  subst hq
  unfold rcell at *
  have := RowAt.setNode h (rs (s % n) n k) a0 a1 a2 a3
  rw [rlay_step s n K 0 k hk _ h0, rlay_step s n V 0 k hk _ h1, rlay_step s n _ (-1) k hk _ h2, rlay_step s n (fun j => nth (ring s n) (j + 1)) (-1) k hk _ h3] at this
  exact this
/-- the cache of the law -/
def ringC (s n : Nat) (K V : Nat → Int) : Cs :=
  ⟨n + 1, rlay s n K 0 n, rlay s n V 0 n, rlay s n (prv (ring s n)) (-1) n, rlay s n (fun j => nth (ring s n) (j + 1)) (-1) n, nth (ring s n) 0, prv (ring s n) n, n, n, n + 1⟩
theorem ringC_ch (s n : Nat) (K V : Nat → Int) : Ch (ringC s n K V) (ring s n) := by
  rcases Nat.eq_zero_or_pos n with rfl | h0
  · exact ⟨by simp [ring], by simp [ring], rfl, rfl, by simp [ring], by simp [ring], rfl⟩
  have hf : s % n < n := Nat.mod_lt _ h0
  refine lay_ch _ n (rs (s % n) n) (rp (s % n) n) (fun j _ => ?_) (fun j hj => rp_rs _ _ _ hf hj) rfl rfl (fun j hj => rlay_full s n (fun j => nth (ring s n) (j + 1)) (-1) j hj) (fun j hj => rlay_full s n (prv (ring s n)) (-1) j hj) rfl
  have := rs_lt (s % n) n j h0
  show _ < n + 1
  omega
theorem ringC_ents (s n : Nat) (K V : Nat → Int) (j : Nat) (hj : j < n) : (ringC s n K V).ek j = K j ∧ (ringC s n K V).ev j = V j := by
  unfold Cs.ek Cs.ev
  rw [(ringC_ch s n K V).slot j (by rw [ring_len]; omega), nth_some (ring_get s n j hj), Int.toNat_natCast]
  exact ⟨rlay_full s n _ _ j hj, rlay_full s n _ _ j hj⟩

set_option maxRecDepth 100000 in
set_option maxHeartbeats 4000000 in
theorem walk_IChain (w : World) (base : Int) (_w0 : (Lit.int .i64 base).wf = true) (a1 : Option Addr) (n cap : Nat) (V : Nat → Int) (hz : InInts .i64 w a1 n V) (sh : Int) (w2 : (Lit.int .u16 sh).wf = true) :
    Calls Ydxm.prog 3 #[.int .i64 base, .slice a1 n cap, .int .u16 sh] w fun e w' => e = .returned (.bool true) ∧ Below w.heap.size w w' := by
  by_cases hbig : 1024 < n
  · have hbig' : (1024 : Int) < (n : Int) := by omega
    go_enter Ydxm.func3, Ydxm.ntmps3
    go_wp2
    go_ret
    exact ⟨rfl, Below.refl _ _⟩
  have hlen : (n : Int) ≤ 1024 := by omega
  obtain ⟨⟨b, off, hE⟩, _⟩ := hz
  obtain ⟨h20, h21⟩ := wf_u16 w2
  obtain ⟨s, rfl⟩ : ∃ s : Nat, sh = s := ⟨sh.toNat, by omega⟩
  have hmk := make_entries n (by omega)
  have hmn2 : ∀ W, (Instr.makeSlice 24 (.int .i64 ((n : Int) + 1)) (.int .i64 ((n : Int) + 1))).run Ydxm.prog W = _ := make_nodes (n + 1) (by omega)
  have hmn := hmn2 w
  have HMN : Hid _ := hmn2
  clear hmn2
  clear _w0 w2
  have HE : Hid (InRow w b off a1 n 1 (fun j => .int .i64 (V j))) := hE
  clear hE
  have hnn : (n : Int) < (n : Int) + 1 := by omega
  obtain ⟨K, hKd⟩ : ∃ K : Nat → Int, K = fun j : Nat => wrap64 (base + (j : Int)) := ⟨_, rfl⟩
  have RN := RowAt.madeNodes w 28 (n + 1) (fun _ => 0) (fun _ => 0) (fun _ => 0) (fun _ => 0) (by unfold maxLen; omega)
  have KA : Keeps [] w (w.alloc (.cells (madeCells #[.int .i64 0, .int .i64 0, .int .i64 0, .int .i64 0] ((n + 1) * 4)) 28)) := (Keeps.refl _ _).alloc _
  have sA : (w.alloc (.cells (madeCells #[.int .i64 0, .int .i64 0, .int .i64 0, .int .i64 0] ((n + 1) * 4)) 28)).heap.size = w.heap.size + 1 := by simp
  generalize w.alloc (.cells (madeCells #[.int .i64 0, .int .i64 0, .int .i64 0, .int .i64 0] ((n + 1) * 4)) 28) = wA at *
  have RN2 := RN.setNode n 0 0 (-1) (-1)
  have RN3 := RN2.congr (g := rcell s n K V 0) (fun j _ => by unfold rcell rlay; rw [lay_zero, lay_zero, lay_zero, lay_zero])
  have HRN : Hid _ := RN3
  clear RN2 RN3
  obtain ⟨x0, x1, x2, x3, fz⟩ := RN.nodes
  have y0 := x0 n (by omega)
  have y1 := x1 n (by omega)
  have y2 := x2 n (by omega)
  have y3 := x3 n (by omega)
  clear RN x0 x1 x2 x3
  go_enter Ydxm.func3, Ydxm.ntmps3
  go_upto_if 36 with fail
  have RW := fun W : World => RowAt.madeEntries W 26 n K V (by unfold maxLen; omega)
  have HRW : Hid _ := RW
  clear RW
  go_cut [10, 11] (fun h t wx => h = .int .i64 (nth (ring s n) 0) ∧ t = .int .i64 (prv (ring s n) n) ∧ RowAt wx w.heap.size 28 4 (n + 1) (n + 1) (rcell s n K V 0) ∧ RowAt wx (w.heap.size + 1) 26 2 n n (ecell (part 0 K) (part 0 V)) ∧ Keeps [] w wx)
  case first =>
    have fin := HRW.out ((((wA.setCell ⟨w.heap.size, n * 4, none⟩ (.int .i64 0)).setCell ⟨w.heap.size, n * 4 + 1, none⟩ (.int .i64 0)).setCell ⟨w.heap.size, n * 4 + 2, none⟩ (.int .i64 (-1))).setCell ⟨w.heap.size, n * 4 + 3, none⟩ (.int .i64 (-1)))
    simp only [World.size_setCell, sA] at fin
    have HF : Hid _ := fin
    clear fin
    by_cases h0 : 0 < n
    · have h0' : (0 : Int) < (n : Int) := by omega
      have hb0 : ((n : Int) == 0) = false := beq_eq_false_iff_ne.2 (by omega)
      go_wp2
      go_meet
      exact ⟨by rw [ring_head s n h0], by rw [ring_last s n h0], HRN.out.alloc _, HF.out, ((((KA.setCell _ _ (.inr (Nat.le_refl _))).setCell _ _ (.inr (Nat.le_refl _))).setCell _ _ (.inr (Nat.le_refl _))).setCell _ _ (.inr (Nat.le_refl _))).alloc _⟩
    · obtain rfl : n = 0 := by omega
      have h0' : ¬ (0 : Int) < ((0 : Nat) : Int) := by omega
      go_wp2
      go_meet
      exact ⟨rfl, rfl, HRN.out.alloc _, HF.out, ((((KA.setCell _ _ (.inr (Nat.le_refl _))).setCell _ _ (.inr (Nat.le_refl _))).setCell _ _ (.inr (Nat.le_refl _))).setCell _ _ (.inr (Nat.le_refl _))).alloc _⟩
  case rest =>
    clear y0 y1 y2 y3 fz HRN HRW KA sA hmn hmk
    obtain ⟨rfl, rfl, R0, Q0, K0⟩ := hcut
    obtain ⟨hd, hhd⟩ : ∃ hd : Int, hd = nth (ring s n) 0 := ⟨_, rfl⟩
    obtain ⟨tl, htl⟩ : ∃ tl : Int, tl = prv (ring s n) n := ⟨_, rfl⟩
    rw [← hhd, ← htl]
    have HH : Hid (hd = nth (ring s n) 0 ∧ tl = prv (ring s n) n) := ⟨hhd, htl⟩
    have HKd : Hid (K = fun j : Nat => wrap64 (base + (j : Int))) := hKd
    clear hhd htl hKd
    go_wp2
    go_loopw [12] (fun i wr => ∃ k : Nat, k ≤ n ∧ i = .int .i64 k ∧ RowAt wr w.heap.size 28 4 (n + 1) (n + 1) (rcell s n K V k) ∧ RowAt wr (w.heap.size + 1) 26 2 n n (ecell (part k K) (part k V)) ∧ Keeps [] w wr) (fun i _ => n - (intOf i).toNat)
    case atStart => exact ⟨0, by omega, rfl, R0, Q0, K0⟩
    case round =>
      clear R0 Q0 K0
      obtain ⟨k, hk, rfl, hR, hQ, hK⟩ := hrel
      by_cases hlt : k < n
      · have hlt' : (k : Int) < (n : Int) := by omega
        have hb0 : ((n : Int) == 0) = false := beq_eq_false_iff_ne.2 (by omega)
        have E1 := HE.out.keeps hK (by simp)
        obtain rfl := E1.addr (by omega)
        have g0 := E1.cell k (by omega)
        have hbw : b < w.heap.size := HE.out.lt (by omega)
        have hbl := E1.lt (by omega)
        obtain ⟨q, hq⟩ : ∃ q : Nat, q = rs (s % n) n k := ⟨_, rfl⟩
        have hqi := rs_int s n k
        rw [← hq] at hqi
        have hql : q < n := by rw [hq]; exact rs_lt _ _ _ (by omega)
        have hql' : (q : Int) < (n : Int) + 1 := by omega
        obtain ⟨P, hP, hPc⟩ : ∃ P : Int, P = prv (ring s n) k ∧ ((0 : Int) < (k : Int) ∧ ((s : Int) + (k : Int) - 1) % (n : Int) = P ∨ ¬ (0 : Int) < (k : Int) ∧ P = -1) := by
          refine ⟨_, rfl, ?_⟩
          by_cases h0 : 0 < k
          · exact .inl ⟨by omega, (ring_prv s n k hlt h0).symm⟩
          · exact .inr ⟨by omega, by unfold prv; rw [if_pos (by omega)]⟩
        obtain ⟨X, hX, hXc⟩ : ∃ X : Int, X = nth (ring s n) (k + 1) ∧ ((k : Int) + 1 < (n : Int) ∧ ((s : Int) + (k : Int) + 1) % (n : Int) = X ∨ ¬ (k : Int) + 1 < (n : Int) ∧ X = -1) := by
          refine ⟨_, rfl, ?_⟩
          by_cases h0 : k + 1 < n
          · refine .inl ⟨by omega, ?_⟩
            rw [ring_nth s n (k + 1) h0, show ((s : Int) + ((k + 1 : Nat) : Int)) = (s : Int) + (k : Int) + 1 by omega]
          · exact .inr ⟨by omega, ring_nth' s n _ (by omega)⟩
        have HP : Hid (P = prv (ring s n) k) := hP
        have HX : Hid (X = nth (ring s n) (k + 1)) := hX
        have HQ : Hid (q = rs (s % n) n k) := hq
        obtain ⟨x0, x1, x2, x3, fz⟩ := RowAt.nodes (show RowAt wr w.heap.size 28 4 (n + 1) (n + 1) (ncell _ _ _ _) from hR)
        have y0 := x0 q (by omega)
        have y1 := x1 q (by omega)
        have y2 := x2 q (by omega)
        have y3 := x3 q (by omega)
        obtain ⟨d0, d1⟩ := hQ.ents k hlt
        have dz := hQ.frozen
        have hrl := hR.lt
        have hrl2 := hQ.lt
        have HR : Hid (RowAt wr w.heap.size 28 4 (n + 1) (n + 1) (rcell s n K V k) ∧ RowAt wr (w.heap.size + 1) 26 2 n n (ecell (part k K) (part k V)) ∧ Keeps [] w wr) := ⟨hR, hQ, hK⟩
        clear hR hQ hK E1 hP hX hq x0 x1 x2 x3
        have hb1 : b ≠ w.heap.size := by omega
        have hb2 : b ≠ w.heap.size + 1 := by omega
        rcases hPc with ⟨h0, hp⟩ | ⟨h0, rfl⟩ <;> rcases hXc with ⟨h1, hx⟩ | ⟨h1, rfl⟩
        all_goals
          go_wp2
          go_region
          go_wp2
          go_roundw
          case rel =>
            refine ⟨k + 1, by omega, by go_num, ?_, ?_, ?_⟩
            · exact ((rrow_step ((HR.out.1.setOther _ _ (by simp)).setOther _ _ (by simp)) hlt q HQ.out _ _ _ _ (by rw [HKd.out]) rfl HP.out HX.out).alloc _).drew
            · exact (((((((HR.out.2.1.stepEntry _ _ (by rw [HKd.out]) rfl).setOther _ _ (by simp)).setOther _ _ (by simp)).setOther _ _ (by simp)).setOther _ _ (by simp)).alloc _).drew)
            · exact (((((((HR.out.2.2.setCell _ _ (.inr (Nat.le_succ _))).setCell _ _ (.inr (Nat.le_succ _))).setCell _ _ (.inr (Nat.le_refl _))).setCell _ _ (.inr (Nat.le_refl _))).setCell _ _ (.inr (Nat.le_refl _))).setCell _ _ (.inr (Nat.le_refl _))).alloc _).drew
          case measure => simp [intOf]; omega
      · have hlt' : ¬ (k : Int) < (n : Int) := by omega
        obtain rfl : k = n := by omega
        have s1 := hK.size
        have l1 := hR.lt
        have l2 := hQ.lt
        have hQ2 := hQ.fullEntry (Nat.le_refl _)
        have hmn := HMN.out wr
        have RN := RowAt.madeNodes wr 28 (k + 1) (rlay s k K 0 k) (rlay s k V 0 k) (rlay s k (prv (ring s k)) (-1) k) (rlay s k (fun j => nth (ring s k) (j + 1)) (-1) k) (by unfold maxLen; omega)
        have hR2 := hR.alloc (.cells (madeCells #[.int .i64 0, .int .i64 0, .int .i64 0, .int .i64 0] ((k + 1) * 4)) 28)
        have hQ3 := hQ2.alloc (.cells (madeCells #[.int .i64 0, .int .i64 0, .int .i64 0, .int .i64 0] ((k + 1) * 4)) 28)
        have hK3 := hK.alloc (.cells (madeCells #[.int .i64 0, .int .i64 0, .int .i64 0, .int .i64 0] ((k + 1) * 4)) 28)
        generalize wr.alloc (.cells (madeCells #[.int .i64 0, .int .i64 0, .int .i64 0, .int .i64 0] ((k + 1) * 4)) 28) = wB at *
        obtain ⟨bb, hbb⟩ : ∃ bb : Nat, bb = wr.heap.size := ⟨_, rfl⟩
        rw [← hbb] at hmn RN s1 l1 l2
        clear hQ hQ2 hR hK hbb
        go_wp2
        go_loopw [17] (fun i wq => ∃ j : Nat, j ≤ k + 1 ∧ i = .int .i64 j ∧ RowAt wq w.heap.size 28 4 (k + 1) (k + 1) (rcell s k K V k) ∧ RowAt wq (w.heap.size + 1) 26 2 k k (ecell K V) ∧ RowAt wq bb 28 4 (k + 1) (k + 1) (ncell (part j (rlay s k K 0 k)) (part j (rlay s k V 0 k)) (part j (rlay s k (prv (ring s k)) (-1) k)) (part j (rlay s k (fun j => nth (ring s k) (j + 1)) (-1) k))) ∧ Keeps [] w wq) (fun i _ => k + 1 - (intOf i).toNat)
        case atStart => exact ⟨0, by omega, rfl, hR2, hQ3, RN, hK3⟩
        case round =>
          obtain ⟨j, hj, rfl, hR, hQ, hB, hK⟩ := hrel
          by_cases hjl : j < k + 1
          · have hjl' : (j : Int) ≤ (k : Int) := by omega
            have hjl2 : (j : Int) < (k : Int) + 1 := by omega
            obtain ⟨x0, x1, x2, x3, _⟩ := RowAt.nodes (show RowAt wr w.heap.size 28 4 (k + 1) (k + 1) (ncell _ _ _ _) from hR)
            have y0 := x0 j hjl
            have y1 := x1 j hjl
            have y2 := x2 j hjl
            have y3 := x3 j hjl
            obtain ⟨x0, x1, x2, x3, fz⟩ := hB.nodes
            have z0 := x0 j hjl
            have z1 := x1 j hjl
            have z2 := x2 j hjl
            have z3 := x3 j hjl
            have hne1 : w.heap.size ≠ bb := by omega
            have hne2 : w.heap.size + 1 ≠ bb := by omega
            have HR : Hid (RowAt wr w.heap.size 28 4 (k + 1) (k + 1) (rcell s k K V k) ∧ RowAt wr (w.heap.size + 1) 26 2 k k (ecell K V) ∧ RowAt wr bb 28 4 (k + 1) (k + 1) (ncell (part j (rlay s k K 0 k)) (part j (rlay s k V 0 k)) (part j (rlay s k (prv (ring s k)) (-1) k)) (part j (rlay s k (fun j => nth (ring s k) (j + 1)) (-1) k))) ∧ Keeps [] w wr) := ⟨hR, hQ, hB, hK⟩
            clear hR hQ hB hK x0 x1 x2 x3 hmn RN hR2 hQ3 hK3
            go_wp2
            go_roundw
            case rel =>
              refine ⟨j + 1, by omega, by go_num, ?_, ?_, ?_, ?_⟩
              · exact (((HR.out.1.setOther _ _ hne1).setOther _ _ hne1).setOther _ _ hne1).setOther _ _ hne1
              · exact (((HR.out.2.1.setOther _ _ hne2).setOther _ _ hne2).setOther _ _ hne2).setOther _ _ hne2
              · exact HR.out.2.2.1.stepNode _ _ _ _ rfl rfl rfl rfl
              · exact (((HR.out.2.2.2.setCell _ _ (.inr s1)).setCell _ _ (.inr s1)).setCell _ _ (.inr s1)).setCell _ _ (.inr s1)
            case measure => simp [intOf]; omega
          · have hjl' : ¬ (j : Int) ≤ (k : Int) := by omega
            obtain rfl : j = k + 1 := by omega
            clear hmn RN hR2 hQ3 hK3
            have hB2 := hB.fullNode (Nat.le_refl _)
            have HC := CacheAt.boxed hd tl k k ((k : Int) + 1) (show RowAt wr w.heap.size 28 4 (k + 1) (k + 1) (ncell _ _ _ _) from hR)
            have ec : (⟨k + 1, rlay s k K 0 k, rlay s k V 0 k, rlay s k (prv (ring s k)) (-1) k, rlay s k (fun j => nth (ring s k) (j + 1)) (-1) k, hd, tl, (k : Int), (k : Int), (k : Int) + 1⟩ : Cs) = ringC s k K V := by
              unfold ringC; rw [HH.out.1, HH.out.2]
            rw [ec] at HC
            have hl2 := hQ.lt
            have hl3 := hB2.lt
            have ORD := Order_at _ _ _ _ HC (show (0 : Int) ≤ (k : Int) by omega) (show (k : Int) ≤ 1000000 by omega) (ringC_ch s k K V).slots
            have hQ2 := hQ.alloc (.cells #[.slice (some ⟨w.heap.size, 0, none⟩) (k + 1) (k + 1), .int .i64 hd, .int .i64 tl, .int .i64 (k : Int), .int .i64 (k : Int), .int .i64 ((k : Int) + 1)] 32)
            have hB3 := hB2.alloc (.cells #[.slice (some ⟨w.heap.size, 0, none⟩) (k + 1) (k + 1), .int .i64 hd, .int .i64 tl, .int .i64 (k : Int), .int .i64 (k : Int), .int .i64 ((k : Int) + 1)] 32)
            have hK2 := hK.alloc (.cells #[.slice (some ⟨w.heap.size, 0, none⟩) (k + 1) (k + 1), .int .i64 hd, .int .i64 tl, .int .i64 (k : Int), .int .i64 (k : Int), .int .i64 ((k : Int) + 1)] 32)
            clear hQ hB hB2 hR hK ec
            go_wp2_with fail
            obtain ⟨cb, hcb⟩ : ∃ cb : Nat, cb = wr.heap.size := ⟨_, rfl⟩
            rw [← hcb] at HC ORD
            generalize wr.alloc (.cells #[.slice (some ⟨w.heap.size, 0, none⟩) (k + 1) (k + 1), .int .i64 hd, .int .i64 tl, .int .i64 (k : Int), .int .i64 (k : Int), .int .i64 ((k : Int) + 1)] 32) = wC at *
            rw [← hcb] at *
            rw [show (ringC s k K V).size.toNat = k from rfl] at ORD
            clear hcb
            refine ORD.mono ?_
            rintro e w2 ⟨ob, oc, rfl, R2, hob, K2⟩
            have R3 := R2.congr (g := ecell K V) (fun j hj => by unfold ecell; obtain ⟨e1, e2⟩ := ringC_ents s k K V (j / 2) (by omega); rw [e1, e2])
            have HC2 := HC.keeps K2 (by simp) (by simp)
            have Q2 := hQ2.keeps K2 (by simp)
            have B2 := hB3.keeps K2 (by simp)
            have KB := hK2.trans K2 (cs := []) (bs := []) (by simp)
            have t1 := hQ2.lt
            have t2 := hB3.lt
            have t3 := HC.lt
            have t4 := HC.nlt
            have hob0 := hK2.size
            clear ORD R2 HC hQ2 hB3 hK2 K2
            have qnil : ∀ (w : World) (a : Option Addr) (n c n' c' : Nat), (binOp .eql 29 (.slice a n c) (.slice none n' c')).run Ydxm.prog w = .ok (.bool a.isNone) w := fun w a n c n' c' => Lib.run_eql_slice_nil w _ _ a n c n' c' Ydxm.underlying29
            go_wp2_with fail
            refine (isame_at w2 ob 0 k oc (w.heap.size + 1) 0 k k _ _ K V K V R3.inRow Q2.inRow (by omega)).mono ?_
            rintro e w3 ⟨r, rfl, hr, K3⟩
            obtain rfl : r = true := hr.2 ⟨rfl, fun _ _ => ⟨rfl, rfl⟩⟩
            have R4 := R3.keeps K3 (by simp)
            have HC3 := HC2.keeps K3 (by simp) (by simp)
            have B3 := B2.keeps K3 (by simp)
            have KC := KB.trans K3 (cs := []) (bs := []) (by simp)
            clear R3 HC2 Q2 B2 KB K3 hr
            go_wp2
            go_loopw [133] (fun i wq => ∃ (j : Nat) (K' V' : Nat → Int), j ≤ k ∧ i = .int .i64 j ∧ RowAt wq ob 26 2 k oc (ecell K' V') ∧ CacheAt wq cb w.heap.size (ringC s k K V) ∧ RowAt wq bb 28 4 (k + 1) (k + 1) (rcell s k K V k) ∧ Keeps [] w wq) (fun i _ => k - (intOf i).toNat)
            case atStart => exact ⟨0, K, V, by omega, rfl, R4, HC3, B3, KC⟩
            case round =>
              clear R4 HC3 B3 KC
              obtain ⟨j, K', V', hj, rfl, R5, C5, B5, K5⟩ := hrel
              by_cases hjk : j < k
              · have hjk' : (j : Int) < (k : Int) := by omega
                obtain ⟨r0, r1⟩ := R5.ents j hjk
                have rz := R5.frozen
                have HR : Hid (RowAt wr ob 26 2 k oc (ecell K' V') ∧ CacheAt wr cb w.heap.size (ringC s k K V) ∧ RowAt wr bb 28 4 (k + 1) (k + 1) (rcell s k K V k) ∧ Keeps [] w wr) := ⟨R5, C5, B5, K5⟩
                clear R5 C5 B5 K5
                go_wp2
                go_roundw
                case rel =>
                  refine ⟨j + 1, _, _, by omega, by go_num, HR.out.1.setEntry j 0 0, ?_, ?_, ?_⟩
                  · exact (HR.out.2.1.setOther _ _ (by show cb ≠ ob; omega) (by show w.heap.size ≠ ob; omega)).setOther _ _ (by show cb ≠ ob; omega) (by show w.heap.size ≠ ob; omega)
                  · exact (HR.out.2.2.1.setOther _ _ (by show bb ≠ ob; omega)).setOther _ _ (by show bb ≠ ob; omega)
                  · exact (HR.out.2.2.2.setCell _ _ (.inr (by show w.heap.size ≤ ob; omega))).setCell _ _ (.inr (by show w.heap.size ≤ ob; omega))
                case measure => simp [intOf]; omega
              · have hjk' : ¬ (j : Int) < (k : Int) := by omega
                obtain ⟨hne, ncap, q0, RR⟩ := C5.row (show 0 < k + 1 by omega)
                have q1 : wr.cell? ⟨cb, 1, none⟩ = some (.int .i64 hd) := by rw [HH.out.1]; exact C5.c1
                have q2 : wr.cell? ⟨cb, 2, none⟩ = some (.int .i64 tl) := by rw [HH.out.2]; exact C5.c2
                have q3 : wr.cell? ⟨cb, 3, none⟩ = some (.int .i64 (k : Int)) := C5.c3
                have q4 : wr.cell? ⟨cb, 4, none⟩ = some (.int .i64 (k : Int)) := C5.c4
                have q5 : wr.cell? ⟨cb, 5, none⟩ = some (.int .i64 ((k : Int) + 1)) := C5.c5
                have q0' : wr.cell? ⟨cb, 0, none⟩ = some (.slice (some ⟨w.heap.size, 0, none⟩) (k + 1) ncap) := q0
                have RB : RowAt wr w.heap.size 28 4 (k + 1) ncap (rcell s k K V k) := RR
                have HR : Hid (RowAt wr w.heap.size 28 4 (k + 1) ncap (rcell s k K V k) ∧ RowAt wr bb 28 4 (k + 1) (k + 1) (rcell s k K V k) ∧ Keeps [] w wr) := ⟨RB, B5, K5⟩
                clear RR RB R5 C5 B5 K5 q0
                go_wp2
                have Q0 : Hid (wr.cell? ⟨cb, 0, none⟩ = some (.slice (some ⟨w.heap.size, 0, none⟩) (k + 1) ncap)) := q0'
                clear q0' q1 q2 q3 q4 q5
                generalize wr = wo0 at *
                go_loopw [21] (fun i wq => ∃ (j : Nat), j ≤ k + 1 ∧ i = .int .i64 j ∧ Keeps [] wo0 wq) (fun i _ => k + 1 - (intOf i).toNat)
                case atStart => exact ⟨0, by omega, rfl, Keeps.refl _ _⟩
                case round =>
                  obtain ⟨j, hj, rfl, K6⟩ := hrel
                  by_cases hjk : j < k + 1
                  · have hjl' : (j : Int) ≤ (k : Int) := by omega
                    have hjl2 : (j : Int) < (k : Int) + 1 := by omega
                    have q0 := K6.cell Q0.out (by simp)
                    obtain ⟨x0, x1, x2, x3, _⟩ := RowAt.nodes (show RowAt wr w.heap.size 28 4 (k + 1) ncap (ncell _ _ _ _) from HR.out.1.keeps K6 (by simp))
                    have y0 := x0 j hjk
                    have y1 := x1 j hjk
                    have y2 := x2 j hjk
                    have y3 := x3 j hjk
                    obtain ⟨x0, x1, x2, x3, _⟩ := RowAt.nodes (show RowAt wr bb 28 4 (k + 1) (k + 1) (ncell _ _ _ _) from HR.out.2.1.keeps K6 (by simp))
                    have z0 := x0 j hjk
                    have z1 := x1 j hjk
                    have z2 := x2 j hjk
                    have z3 := x3 j hjk
                    have HK6 : Hid (Keeps [] wo0 wr) := K6
                    clear x0 x1 x2 x3 K6
                    have hns := node_same
                    go_wp2
                    go_quiet (fail)
                    go_wp2
                    go_roundw
                    case rel => exact ⟨j + 1, by omega, by go_num, HK6.out.drewN _⟩
                    case measure => simp [intOf]; omega
                  · have hjl' : ¬ (j : Int) ≤ (k : Int) := by omega
                    go_wp2
                    go_ret
                    exact ⟨rfl, (HR.out.2.2.trans K6 (cs := []) (bs := []) (by simp)).below (Nat.le_refl _) (by simp)⟩
end Go.Proofs.Ymbrdx
