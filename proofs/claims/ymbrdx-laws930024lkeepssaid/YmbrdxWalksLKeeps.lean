/- The law LKeeps: her walk. -/
import Derived.Test.YmbrdxLStep
import Derived.Test.YmbrdxNodes
import Derived.Deep.DeepCutAuto
namespace Go.Proofs.Ymbrdx
open Go.RowKit

theorem CacheAt.nodes {w : World} {cb nb : Nat} {c : Cs} (h : CacheAt w cb nb c) : ∃ na nc, w.cell? ⟨cb, 0, none⟩ = some (.slice na c.n nc) := by
  rcases h.nod with ⟨_, h1, h2⟩ | ⟨_, nc, h1, _⟩
  · exact ⟨none, 0, by rw [h2, h1]⟩
  · exact ⟨_, nc, h1⟩

set_option maxRecDepth 100000 in
set_option maxHeartbeats 4000000 in
theorem walk_LKeeps (w : World) (a0 : Int) (_w0 : (Lit.int .i64 a0).wf = true) (a1 : Option Addr) (len cap : Nat) (z : Nat → Nat → Int) (hz : InStr [.u8, .i64, .i64] w a1 len z) (key : Int) (_w2 : (Lit.int .i64 key).wf = true) (pick : Int) (w3 : (Lit.int .u64 pick).wf = true) :
    Calls Ydxm.prog 14 #[.int .i64 a0, .slice a1 len cap, .int .i64 key, .int .u64 pick] w fun e w' => e = .returned (.bool true) ∧ Below w.heap.size w w' := by
  by_cases hbig : 1024 < len
  · have hbig' : (1024 : Int) < (len : Int) := by omega
    go_enter Ydxm.func14, Ydxm.ntmps14
    go_wp2
    go_ret
    exact ⟨rfl, Below.refl _ _⟩
  have hlen : (len : Int) ≤ 1024 := by omega
  obtain ⟨b, off, hS⟩ := Script.of hz
  obtain ⟨h30, h31⟩ := wf_u64 w3
  have HS : Hid (Script w b off a1 len z) := hS
  clear hz _w0 _w2 w3 hS
  obtain ⟨room, hroom⟩ : ∃ room, room = max a0 0 := ⟨_, rfl⟩
  have HRM : Hid (room = max a0 0) := hroom
  clear hroom
  have hns := node_same
  obtain ⟨i0, hi0, hz0, hz1, hz2⟩ := info_parts infoNode
  go_enter Ydxm.func14, Ydxm.ntmps14
  go_wp2_with fail
  refine (New_held a0 w).mono ?_
  rintro e w1 ⟨rfl, H1, K1, S1⟩
  rw [← HRM.out] at H1
  go_wp2
  go_loopw [10] (fun i wr => ∃ k nb : Nat, ∃ c : Cs, k ≤ len ∧ i = .int .i64 k ∧ Held wr w.heap.size nb c k room (splay 8 2 0 1 room z [] k) ∧ w.heap.size ≤ nb ∧ Keeps [] w wr) (fun i _ => len - (intOf i).toNat)
  case atStart => exact ⟨0, _, _, by omega, rfl, H1, Nat.le_refl _, K1⟩
  case round =>
    obtain ⟨k, nb, c, hk, rfl, HC, hnb, hK⟩ := hrel
    clear H1 K1
    have hsz := hK.size
    have hcl := HC.lt
    have hcn := HC.nlt
    by_cases hlt : k < len
    · have hlt' : (k : Int) < (len : Int) := by omega
      have S2 := HS.out.keeps hK (by simp)
      obtain rfl := S2.1.addr (by omega)
      have hblt := S2.1.lt (by omega)
      obtain ⟨g0, g1, g2⟩ := instr3 S2.1 k hlt
      obtain ⟨b0, b1⟩ := S2.2 k hlt
      have ST := lstep_at wr w.heap.size nb k c room _ (z k 0) (z k 1) (z k 2) b0 b1 HC (by omega)
      rw [show sstep 8 2 0 1 room (splay 8 2 0 1 room z [] k) (z k 0) (z k 1) (z k 2) = splay 8 2 0 1 room z [] (k + 1) from rfl] at ST
      have HI : Hid (Keeps [] w wr) := hK
      clear HC hK S2
      go_wp2_with fail
      refine ST.mono ?_
      rintro e w2 ⟨nb2, c2, rfl, H2, hb2, K2⟩
      clear ST
      have HN : Hid (Held w2 w.heap.size nb2 c2 (k + 1) room (splay 8 2 0 1 room z [] (k + 1)) ∧ w.heap.size ≤ nb2 ∧ Keeps [] w w2) := ⟨H2, by omega, HI.out.trans K2 (by simp; omega)⟩
      clear H2 hb2 K2
      go_wp2
      go_roundw
      case rel => exact ⟨k + 1, nb2, c2, by omega, by go_num, HN.out.1, HN.out.2.1, HN.out.2.2⟩
      case measure => simp [intOf]; omega
    · have hlt' : ¬ (k : Int) < (len : Int) := by omega
      obtain rfl : k = len := by omega
      have S2 := HS.out.keeps hK (by simp)
      generalize splay 8 2 0 1 room z [] k = M at *
      have hcases : (¬ 0 < k) ∨ (0 < k ∧ pick % 4 = 0) ∨ (0 < k ∧ ¬ pick % 4 = 0) := by omega
      have hnk := HC.n
      rcases hcases with h0 | ⟨h0, h4⟩ | ⟨h0, h4⟩
      · have h0' : ¬ (0 : Int) < (k : Int) := by omega
        have hni : (c.n : Int) ≤ 1024 := by omega
        have hmk := make_nodes c.n (by omega)
        have KA : Keeps [] w (wr.alloc (.cells (madeCells #[.int .i64 0, .int .i64 0, .int .i64 0, .int .i64 0] (c.n * 4)) 28)) := hK.alloc _
        have HA := HC.alloc (.cells (madeCells #[.int .i64 0, .int .i64 0, .int .i64 0, .int .i64 0] (c.n * 4)) 28)
        have RD := RowAt.madeNodes wr 28 c.n (fun _ => 0) (fun _ => 0) (fun _ => 0) (fun _ => 0) (by unfold maxLen; omega)
        rcases HC.at_.nod with ⟨hnb0, hn0, d0⟩ | ⟨hne, ncap, d0, RN⟩
        · rw [hn0] at hmk KA HA RD
          rw [show ((0 : Nat) : Int) = (0 : Int) from rfl, Nat.zero_mul] at hmk
          rw [Nat.zero_mul] at KA HA RD
          have cp := fun ty => run_copy_nil (P := Ydxm.prog) (w := wr.alloc (.cells (madeCells #[.int .i64 0, .int .i64 0, .int .i64 0, .int .i64 0] 0) 28)) 24 24 ty 28 Ydxm.underlying24 i0 hi0 wr.heap.size 0 none 0
          clear hnb0
          have HCn : Hid (c.n = 0) := hn0
          clear hn0
          go_wp2_with (at_builtin; refine wp_copy _ rfl (.tmp 66) (.tmp 70) 24 24 rfl _ _ rfl rfl _ _ cp ?_)
          have HQ := HA
          have RQ := RD.congr (g := ncell c.key c.val c.prev c.next) (fun j hj => absurd hj (by omega))
          have KQ := KA
          generalize wr.alloc (.cells (madeCells #[.int .i64 0, .int .i64 0, .int .i64 0, .int .i64 0] 0) 28) = wq at *
          clear HA RD KA cp
          generalize wr.heap.size = dg at *
          have HI : Hid (Held wq w.heap.size nb c k room M ∧ RowAt wq dg 28 4 0 0 (ncell c.key c.val c.prev c.next) ∧ Keeps [] w wq) := ⟨HQ, RQ, KQ⟩
          have c1 := HQ.at_.c1
          have c2 := HQ.at_.c2
          have c3 := HQ.at_.c3
          have c4 := HQ.at_.c4
          have c5 := HQ.at_.c5
          obtain ⟨na, nc, q0⟩ := HQ.at_.nodes
          rw [HCn.out] at q0
          have hcq := HQ.lt
          clear HQ RQ KQ
          go_quiet (fail)
          go_wp2_with fail
          refine (Peek_held _ (HI.out.1.drewN _) (by omega)).mono ?_
          rintro e w5 ⟨rfl, rfl⟩
          go_wp2
          go_loopw [20] (fun i wl => ∃ t : Nat, t ≤ 0 ∧ i = .int .i64 t ∧ Held wl w.heap.size nb c k room M ∧ RowAt wl dg 28 4 0 0 (ncell c.key c.val c.prev c.next) ∧ Keeps [] w wl) (fun i _ => 0 - (intOf i).toNat)
          case atStart => exact ⟨0, by omega, rfl, HI.out.1.drewN _, HI.out.2.1.keeps ((Keeps.refl [] _).drewN _) (by simp), HI.out.2.2.drewN _⟩
          case round =>
            obtain ⟨t, ht, rfl, HL, RL, KL⟩ := hrel
            obtain rfl : t = 0 := by omega
            have GT := Get_held key HL (by omega)
            have hk5 := KL.size
            clear HL RL
            go_wp2_with fail
            refine GT.mono ?_
            rintro e w6 ⟨rfl, H6, K6⟩
            clear GT
            go_wp2
            go_ret
            exact ⟨rfl, (KL.trans K6 (cs := [w.heap.size, nb]) (bs := []) (by simp; omega)).below (Nat.le_refl _) (by simp)⟩
        · obtain ⟨wq, hrun, RQ, KC⟩ := run_copy_rows (P := Ydxm.prog) 24 24 28 4 Ydxm.underlying24 i0 hi0 hz1 wr.heap.size c.n c.n nb ncap _ _ 28 28 RD (RN.alloc _) (fun j _ => by unfold ncell; repeat (first | rfl | split))
          have HQ := HA.keeps KC (by simp; omega) (by simp; omega)
          have KQ := KA.trans KC (cs := [wr.heap.size]) (bs := []) (by simp; omega)
          go_wp2_with (at_builtin; refine wp_copy _ rfl (.tmp 66) (.tmp 70) 24 24 rfl _ _ rfl rfl _ wq hrun ?_)
          clear HA RD KA hrun KC RN
          generalize wr.heap.size = dg at *
          have HI : Hid (Held wq w.heap.size nb c k room M ∧ RowAt wq dg 28 4 c.n c.n (ncell c.key c.val c.prev c.next) ∧ Keeps [] w wq) := ⟨HQ, RQ, KQ⟩
          have c1 := HQ.at_.c1
          have c2 := HQ.at_.c2
          have c3 := HQ.at_.c3
          have c4 := HQ.at_.c4
          have c5 := HQ.at_.c5
          obtain ⟨na, nc, q0⟩ := HQ.at_.nodes
          have hcq := HQ.lt
          clear HQ RQ KQ
          go_quiet (fail)
          go_wp2_with fail
          refine (Peek_held _ (HI.out.1.drewN _) (by omega)).mono ?_
          rintro e w5 ⟨rfl, rfl⟩
          go_wp2
          go_loopw [20] (fun i wl => ∃ t : Nat, t ≤ c.n ∧ i = .int .i64 t ∧ Held wl w.heap.size nb c k room M ∧ RowAt wl dg 28 4 c.n c.n (ncell c.key c.val c.prev c.next) ∧ Keeps [] w wl) (fun i _ => c.n - (intOf i).toNat)
          case atStart => exact ⟨0, by omega, rfl, HI.out.1.drewN _, HI.out.2.1.keeps ((Keeps.refl [] _).drewN _) (by simp), HI.out.2.2.drewN _⟩
          case round =>
            obtain ⟨t, ht, rfl, HL, RL, KL⟩ := hrel
            by_cases htl : t < c.n
            · have htl' : (t : Int) < (c.n : Int) := by omega
              obtain ⟨hne', ncap', d0', RN'⟩ := HL.at_.row (by omega)
              obtain ⟨k0, k1, k2, k3, _⟩ := RN'.nodes
              obtain ⟨m0, m1, m2, m3, _⟩ := RL.nodes
              have e0 := k0 t htl
              have e1 := k1 t htl
              have e2 := k2 t htl
              have e3 := k3 t htl
              have f0 := m0 t htl
              have f1 := m1 t htl
              have f2 := m2 t htl
              have f3 := m3 t htl
              have hlt0 := HL.lt
              have hlt1 := HL.nlt
              have hlt2 := RL.lt
              have HP : Hid (Held wr w.heap.size nb c k room M ∧ RowAt wr dg 28 4 c.n c.n (ncell c.key c.val c.prev c.next) ∧ Keeps [] w wr) := ⟨HL, RL, KL⟩
              clear HL RL KL k0 k1 k2 k3 m0 m1 m2 m3 RN'
              go_wp2
              go_quiet (fail)
              go_wp2
              go_roundw
              case rel => exact ⟨t + 1, by omega, by go_num, HP.out.1.drewN _, HP.out.2.1.keeps ((Keeps.refl [] _).drewN _) (by simp), HP.out.2.2.drewN _⟩
              case measure => simp [intOf]; omega
            · have htl' : ¬ (t : Int) < (c.n : Int) := by omega
              have GT := Get_held key HL (by omega)
              have hk5 := KL.size
              clear HL RL
              go_wp2_with fail
              refine GT.mono ?_
              rintro e w6 ⟨rfl, H6, K6⟩
              clear GT
              go_wp2
              go_ret
              exact ⟨rfl, (KL.trans K6 (cs := [w.heap.size, nb]) (bs := []) (by simp; omega)).below (Nat.le_refl _) (by simp)⟩
      · have h0' : (0 : Int) < (k : Int) := by omega
        have h4' : (pick % 4 != 0) = false := by rw [bne_eq_false_iff_eq]; exact h4
        have hni : (c.n : Int) ≤ 1024 := by omega
        have hmk := make_nodes c.n (by omega)
        have KA : Keeps [] w (wr.alloc (.cells (madeCells #[.int .i64 0, .int .i64 0, .int .i64 0, .int .i64 0] (c.n * 4)) 28)) := hK.alloc _
        have HA := HC.alloc (.cells (madeCells #[.int .i64 0, .int .i64 0, .int .i64 0, .int .i64 0] (c.n * 4)) 28)
        have RD := RowAt.madeNodes wr 28 c.n (fun _ => 0) (fun _ => 0) (fun _ => 0) (fun _ => 0) (by unfold maxLen; omega)
        rcases HC.at_.nod with ⟨hnb0, hn0, d0⟩ | ⟨hne, ncap, d0, RN⟩
        · rw [hn0] at hmk KA HA RD
          rw [show ((0 : Nat) : Int) = (0 : Int) from rfl, Nat.zero_mul] at hmk
          rw [Nat.zero_mul] at KA HA RD
          have cp := fun ty => run_copy_nil (P := Ydxm.prog) (w := wr.alloc (.cells (madeCells #[.int .i64 0, .int .i64 0, .int .i64 0, .int .i64 0] 0) 28)) 24 24 ty 28 Ydxm.underlying24 i0 hi0 wr.heap.size 0 none 0
          clear hnb0
          have HCn : Hid (c.n = 0) := hn0
          clear hn0
          go_wp2_with (at_builtin; refine wp_copy _ rfl (.tmp 66) (.tmp 70) 24 24 rfl _ _ rfl rfl _ _ cp ?_)
          have HQ := HA
          have RQ := RD.congr (g := ncell c.key c.val c.prev c.next) (fun j hj => absurd hj (by omega))
          have KQ := KA
          generalize wr.alloc (.cells (madeCells #[.int .i64 0, .int .i64 0, .int .i64 0, .int .i64 0] 0) 28) = wq at *
          clear HA RD KA cp
          generalize wr.heap.size = dg at *
          have HI : Hid (Held wq w.heap.size nb c k room M ∧ RowAt wq dg 28 4 0 0 (ncell c.key c.val c.prev c.next) ∧ Keeps [] w wq) := ⟨HQ, RQ, KQ⟩
          have c1 := HQ.at_.c1
          have c2 := HQ.at_.c2
          have c3 := HQ.at_.c3
          have c4 := HQ.at_.c4
          have c5 := HQ.at_.c5
          obtain ⟨na, nc, q0⟩ := HQ.at_.nodes
          rw [HCn.out] at q0
          have hcq := HQ.lt
          clear HQ RQ KQ
          go_quiet (fail)
          go_wp2_with fail
          refine (Peek_held _ (HI.out.1.drewN _) (by omega)).mono ?_
          rintro e w5 ⟨rfl, rfl⟩
          go_wp2
          go_loopw [20] (fun i wl => ∃ t : Nat, t ≤ 0 ∧ i = .int .i64 t ∧ Held wl w.heap.size nb c k room M ∧ RowAt wl dg 28 4 0 0 (ncell c.key c.val c.prev c.next) ∧ Keeps [] w wl) (fun i _ => 0 - (intOf i).toNat)
          case atStart => exact ⟨0, by omega, rfl, HI.out.1.drewN _, HI.out.2.1.keeps ((Keeps.refl [] _).drewN _) (by simp), HI.out.2.2.drewN _⟩
          case round =>
            obtain ⟨t, ht, rfl, HL, RL, KL⟩ := hrel
            obtain rfl : t = 0 := by omega
            have GT := Get_held key HL (by omega)
            have hk5 := KL.size
            clear HL RL
            go_wp2_with fail
            refine GT.mono ?_
            rintro e w6 ⟨rfl, H6, K6⟩
            clear GT
            go_wp2
            go_ret
            exact ⟨rfl, (KL.trans K6 (cs := [w.heap.size, nb]) (bs := []) (by simp; omega)).below (Nat.le_refl _) (by simp)⟩
        · obtain ⟨wq, hrun, RQ, KC⟩ := run_copy_rows (P := Ydxm.prog) 24 24 28 4 Ydxm.underlying24 i0 hi0 hz1 wr.heap.size c.n c.n nb ncap _ _ 28 28 RD (RN.alloc _) (fun j _ => by unfold ncell; repeat (first | rfl | split))
          have HQ := HA.keeps KC (by simp; omega) (by simp; omega)
          have KQ := KA.trans KC (cs := [wr.heap.size]) (bs := []) (by simp; omega)
          go_wp2_with (at_builtin; refine wp_copy _ rfl (.tmp 66) (.tmp 70) 24 24 rfl _ _ rfl rfl _ wq hrun ?_)
          clear HA RD KA hrun KC RN
          generalize wr.heap.size = dg at *
          have HI : Hid (Held wq w.heap.size nb c k room M ∧ RowAt wq dg 28 4 c.n c.n (ncell c.key c.val c.prev c.next) ∧ Keeps [] w wq) := ⟨HQ, RQ, KQ⟩
          have c1 := HQ.at_.c1
          have c2 := HQ.at_.c2
          have c3 := HQ.at_.c3
          have c4 := HQ.at_.c4
          have c5 := HQ.at_.c5
          obtain ⟨na, nc, q0⟩ := HQ.at_.nodes
          have hcq := HQ.lt
          clear HQ RQ KQ
          go_quiet (fail)
          go_wp2_with fail
          refine (Peek_held _ (HI.out.1.drewN _) (by omega)).mono ?_
          rintro e w5 ⟨rfl, rfl⟩
          go_wp2
          go_loopw [20] (fun i wl => ∃ t : Nat, t ≤ c.n ∧ i = .int .i64 t ∧ Held wl w.heap.size nb c k room M ∧ RowAt wl dg 28 4 c.n c.n (ncell c.key c.val c.prev c.next) ∧ Keeps [] w wl) (fun i _ => c.n - (intOf i).toNat)
          case atStart => exact ⟨0, by omega, rfl, HI.out.1.drewN _, HI.out.2.1.keeps ((Keeps.refl [] _).drewN _) (by simp), HI.out.2.2.drewN _⟩
          case round =>
            obtain ⟨t, ht, rfl, HL, RL, KL⟩ := hrel
            by_cases htl : t < c.n
            · have htl' : (t : Int) < (c.n : Int) := by omega
              obtain ⟨hne', ncap', d0', RN'⟩ := HL.at_.row (by omega)
              obtain ⟨k0, k1, k2, k3, _⟩ := RN'.nodes
              obtain ⟨m0, m1, m2, m3, _⟩ := RL.nodes
              have e0 := k0 t htl
              have e1 := k1 t htl
              have e2 := k2 t htl
              have e3 := k3 t htl
              have f0 := m0 t htl
              have f1 := m1 t htl
              have f2 := m2 t htl
              have f3 := m3 t htl
              have hlt0 := HL.lt
              have hlt1 := HL.nlt
              have hlt2 := RL.lt
              have HP : Hid (Held wr w.heap.size nb c k room M ∧ RowAt wr dg 28 4 c.n c.n (ncell c.key c.val c.prev c.next) ∧ Keeps [] w wr) := ⟨HL, RL, KL⟩
              clear HL RL KL k0 k1 k2 k3 m0 m1 m2 m3 RN'
              go_wp2
              go_quiet (fail)
              go_wp2
              go_roundw
              case rel => exact ⟨t + 1, by omega, by go_num, HP.out.1.drewN _, HP.out.2.1.keeps ((Keeps.refl [] _).drewN _) (by simp), HP.out.2.2.drewN _⟩
              case measure => simp [intOf]; omega
            · have htl' : ¬ (t : Int) < (c.n : Int) := by omega
              have GT := Get_held key HL (by omega)
              have hk5 := KL.size
              clear HL RL
              go_wp2_with fail
              refine GT.mono ?_
              rintro e w6 ⟨rfl, H6, K6⟩
              clear GT
              go_wp2
              go_ret
              exact ⟨rfl, (KL.trans K6 (cs := [w.heap.size, nb]) (bs := []) (by simp; omega)).below (Nat.le_refl _) (by simp)⟩
      · have h0' : (0 : Int) < (k : Int) := by omega
        have h4' : (pick % 4 != 0) = true := by rw [bne_iff_ne]; exact h4
        have hk0 : ((k : Int) == 0) = false := beq_eq_false_iff_ne.2 (by omega)
        obtain ⟨q, hq⟩ : ∃ q : Nat, (q : Int) = pick / 4 % (k : Int) := ⟨(pick / 4 % (k : Int)).toNat, Int.toNat_of_nonneg (Int.emod_nonneg _ (by omega))⟩
        have hql : q < k := by have := Int.emod_lt_of_pos (pick / 4) h0'; omega
        have hql' : (q : Int) < (k : Int) := by omega
        rw [eq_comm] at hq
        obtain ⟨g0, g1, g2⟩ := instr3 S2.1 q hql
        have hbl := S2.1.lt (by omega)
        obtain rfl := S2.1.addr (by omega)
        generalize z q 1 = key2 at *
        clear h4 g0 g2
        have hni : (c.n : Int) ≤ 1024 := by omega
        have hmk := make_nodes c.n (by omega)
        have KA : Keeps [] w (wr.alloc (.cells (madeCells #[.int .i64 0, .int .i64 0, .int .i64 0, .int .i64 0] (c.n * 4)) 28)) := hK.alloc _
        have HA := HC.alloc (.cells (madeCells #[.int .i64 0, .int .i64 0, .int .i64 0, .int .i64 0] (c.n * 4)) 28)
        have RD := RowAt.madeNodes wr 28 c.n (fun _ => 0) (fun _ => 0) (fun _ => 0) (fun _ => 0) (by unfold maxLen; omega)
        rcases HC.at_.nod with ⟨hnb0, hn0, d0⟩ | ⟨hne, ncap, d0, RN⟩
        · rw [hn0] at hmk KA HA RD
          rw [show ((0 : Nat) : Int) = (0 : Int) from rfl, Nat.zero_mul] at hmk
          rw [Nat.zero_mul] at KA HA RD
          have cp := fun ty => run_copy_nil (P := Ydxm.prog) (w := wr.alloc (.cells (madeCells #[.int .i64 0, .int .i64 0, .int .i64 0, .int .i64 0] 0) 28)) 24 24 ty 28 Ydxm.underlying24 i0 hi0 wr.heap.size 0 none 0
          clear hnb0
          have HCn : Hid (c.n = 0) := hn0
          clear hn0
          go_wp2_with (at_builtin; refine wp_copy _ rfl (.tmp 66) (.tmp 70) 24 24 rfl _ _ rfl rfl _ _ cp ?_)
          have HQ := HA
          have RQ := RD.congr (g := ncell c.key c.val c.prev c.next) (fun j hj => absurd hj (by omega))
          have KQ := KA
          generalize wr.alloc (.cells (madeCells #[.int .i64 0, .int .i64 0, .int .i64 0, .int .i64 0] 0) 28) = wq at *
          clear HA RD KA cp
          generalize wr.heap.size = dg at *
          have HI : Hid (Held wq w.heap.size nb c k room M ∧ RowAt wq dg 28 4 0 0 (ncell c.key c.val c.prev c.next) ∧ Keeps [] w wq) := ⟨HQ, RQ, KQ⟩
          have c1 := HQ.at_.c1
          have c2 := HQ.at_.c2
          have c3 := HQ.at_.c3
          have c4 := HQ.at_.c4
          have c5 := HQ.at_.c5
          obtain ⟨na, nc, q0⟩ := HQ.at_.nodes
          rw [HCn.out] at q0
          have hcq := HQ.lt
          clear HQ RQ KQ
          go_quiet (fail)
          go_wp2_with fail
          refine (Peek_held _ (HI.out.1.drewN _) (by omega)).mono ?_
          rintro e w5 ⟨rfl, rfl⟩
          go_wp2
          go_loopw [20] (fun i wl => ∃ t : Nat, t ≤ 0 ∧ i = .int .i64 t ∧ Held wl w.heap.size nb c k room M ∧ RowAt wl dg 28 4 0 0 (ncell c.key c.val c.prev c.next) ∧ Keeps [] w wl) (fun i _ => 0 - (intOf i).toNat)
          case atStart => exact ⟨0, by omega, rfl, HI.out.1.drewN _, HI.out.2.1.keeps ((Keeps.refl [] _).drewN _) (by simp), HI.out.2.2.drewN _⟩
          case round =>
            obtain ⟨t, ht, rfl, HL, RL, KL⟩ := hrel
            obtain rfl : t = 0 := by omega
            have GT := Get_held key2 HL (by omega)
            have hk5 := KL.size
            clear HL RL
            go_wp2_with fail
            refine GT.mono ?_
            rintro e w6 ⟨rfl, H6, K6⟩
            clear GT
            go_wp2
            go_ret
            exact ⟨rfl, (KL.trans K6 (cs := [w.heap.size, nb]) (bs := []) (by simp; omega)).below (Nat.le_refl _) (by simp)⟩
        · obtain ⟨wq, hrun, RQ, KC⟩ := run_copy_rows (P := Ydxm.prog) 24 24 28 4 Ydxm.underlying24 i0 hi0 hz1 wr.heap.size c.n c.n nb ncap _ _ 28 28 RD (RN.alloc _) (fun j _ => by unfold ncell; repeat (first | rfl | split))
          have HQ := HA.keeps KC (by simp; omega) (by simp; omega)
          have KQ := KA.trans KC (cs := [wr.heap.size]) (bs := []) (by simp; omega)
          go_wp2_with (at_builtin; refine wp_copy _ rfl (.tmp 66) (.tmp 70) 24 24 rfl _ _ rfl rfl _ wq hrun ?_)
          clear HA RD KA hrun KC RN
          generalize wr.heap.size = dg at *
          have HI : Hid (Held wq w.heap.size nb c k room M ∧ RowAt wq dg 28 4 c.n c.n (ncell c.key c.val c.prev c.next) ∧ Keeps [] w wq) := ⟨HQ, RQ, KQ⟩
          have c1 := HQ.at_.c1
          have c2 := HQ.at_.c2
          have c3 := HQ.at_.c3
          have c4 := HQ.at_.c4
          have c5 := HQ.at_.c5
          obtain ⟨na, nc, q0⟩ := HQ.at_.nodes
          have hcq := HQ.lt
          clear HQ RQ KQ
          go_quiet (fail)
          go_wp2_with fail
          refine (Peek_held _ (HI.out.1.drewN _) (by omega)).mono ?_
          rintro e w5 ⟨rfl, rfl⟩
          go_wp2
          go_loopw [20] (fun i wl => ∃ t : Nat, t ≤ c.n ∧ i = .int .i64 t ∧ Held wl w.heap.size nb c k room M ∧ RowAt wl dg 28 4 c.n c.n (ncell c.key c.val c.prev c.next) ∧ Keeps [] w wl) (fun i _ => c.n - (intOf i).toNat)
          case atStart => exact ⟨0, by omega, rfl, HI.out.1.drewN _, HI.out.2.1.keeps ((Keeps.refl [] _).drewN _) (by simp), HI.out.2.2.drewN _⟩
          case round =>
            obtain ⟨t, ht, rfl, HL, RL, KL⟩ := hrel
            by_cases htl : t < c.n
            · have htl' : (t : Int) < (c.n : Int) := by omega
              obtain ⟨hne', ncap', d0', RN'⟩ := HL.at_.row (by omega)
              obtain ⟨k0, k1, k2, k3, _⟩ := RN'.nodes
              obtain ⟨m0, m1, m2, m3, _⟩ := RL.nodes
              have e0 := k0 t htl
              have e1 := k1 t htl
              have e2 := k2 t htl
              have e3 := k3 t htl
              have f0 := m0 t htl
              have f1 := m1 t htl
              have f2 := m2 t htl
              have f3 := m3 t htl
              have hlt0 := HL.lt
              have hlt1 := HL.nlt
              have hlt2 := RL.lt
              have HP : Hid (Held wr w.heap.size nb c k room M ∧ RowAt wr dg 28 4 c.n c.n (ncell c.key c.val c.prev c.next) ∧ Keeps [] w wr) := ⟨HL, RL, KL⟩
              clear HL RL KL k0 k1 k2 k3 m0 m1 m2 m3 RN'
              go_wp2
              go_quiet (fail)
              go_wp2
              go_roundw
              case rel => exact ⟨t + 1, by omega, by go_num, HP.out.1.drewN _, HP.out.2.1.keeps ((Keeps.refl [] _).drewN _) (by simp), HP.out.2.2.drewN _⟩
              case measure => simp [intOf]; omega
            · have htl' : ¬ (t : Int) < (c.n : Int) := by omega
              have GT := Get_held key2 HL (by omega)
              have hk5 := KL.size
              clear HL RL
              go_wp2_with fail
              refine GT.mono ?_
              rintro e w6 ⟨rfl, H6, K6⟩
              clear GT
              go_wp2
              go_ret
              exact ⟨rfl, (KL.trans K6 (cs := [w.heap.size, nb]) (bs := []) (by simp; omega)).below (Nat.le_refl _) (by simp)⟩
end Go.Proofs.Ymbrdx
