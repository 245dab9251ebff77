/- The law BScript: her walk. -/
import Derived.Test.YmbrdvChain
import Derived.BigQuiet
namespace Go.Proofs.Ymbrdv
open Go.RowKit

theorem rem_nat (a : Int) (n : Nat) (hn : 0 < n) : ∃ i : Nat, a % (n : Int) = i ∧ i < n := ⟨(a % (n : Int)).toNat, by have := Int.emod_nonneg a (show (n : Int) ≠ 0 by omega); omega, by have := Int.emod_lt_of_pos a (show (0 : Int) < n by omega); have := Int.emod_nonneg a (show (n : Int) ≠ 0 by omega); omega⟩

/-- the cache filled by Put, as Restore's own book sees it -/
def bK (n : Nat) (j : Nat) : Int := ((n - 1 - j : Nat) : Int)
def bV (n : Nat) (V : Nat → Int) (j : Nat) : Int := V (n - 1 - j)
theorem bput_step {c : Cs} {n p : Nat} {V : Nat → Int} (h : RInv c n n p (bK n) (bV n V)) (hp : p < n) (hn : n ≤ 1024) : RInv (c.put (p : Int) (V p)) n n (p + 1) (bK n) (bV n V) := by
  have e1 : bK n (n - 1 - p) = (p : Int) := by unfold bK; omega
  have e2 : bV n V (n - 1 - p) = V p := by unfold bV; rw [show n - 1 - (n - 1 - p) = p by omega]
  have := h.step hp (by omega) (by omega) (by
    rw [e1]
    rcases h.inv.ch.find_cases (p : Int) with ⟨_, hf⟩ | ⟨k, x, _, hk, _, hkx, _⟩
    · exact hf
    · have hx : x < p := by
        have := List.mem_of_getElem? hk
        simpa using this
      rw [h.key x hx] at hkx
      unfold bK at hkx
      omega)
  rw [e1, e2] at this
  exact this

/-- what stands between the rounds -/
structure BSt (w wr : World) (n : Nat) (V : Nat → Int) (cb nb lb lc gb gc : Nat) (LL GG : List Nat) (c : Cs) : Prop where
  at_ : CacheAt wr cb nb c
  inv : Inv c LL GG.reverse
  cn : c.n = n
  cap : c.cap = n
  kv : ∀ x ∈ LL, c.key x = x ∧ c.val x = V x
  live : RowAt wr lb 3 1 LL.length lc (icell (nth LL))
  gone : RowAt wr gb 3 1 GG.length gc (icell (nth GG))
  lcb : lb ≠ cb
  lnb : lb ≠ nb
  gcb : gb ≠ cb
  gnb : gb ≠ nb
  lg : lb ≠ gb
  cw : w.heap.size ≤ cb
  nw : w.heap.size ≤ nb
  lw : w.heap.size ≤ lb
  gw : w.heap.size ≤ gb
  keeps : Keeps [] w wr

theorem nth_rev (n k : Nat) (hk : k < n) : nth (List.range n).reverse k = (n : Int) - 1 - k := by
  rw [nth_lt (by simpa using hk)]
  simp
  omega

theorem part_snoc {w : World} {b cap m : Nat} {f : Nat → Int} {x : Int} (r : RowAt w b 3 1 (m + 1) cap (snoc 1 m (icell f) #[.int .i64 x])) (hx : x = f m) : RowAt w b 3 1 (m + 1) cap (icell f) := by
  refine (r.congr (fun j hj => snoc_icell m f x j hj)).congr (fun j _ => ?_)
  subst hx
  unfold icell upd
  split
  · rename_i e; rw [e]
  · rfl
/-- how many are left of the first k when place j is left out -/
def skip1 (j k : Nat) : Nat := if k ≤ j then k else k - 1
theorem skip1_at (j : Nat) : skip1 j (j + 1) = skip1 j j := by unfold skip1; rw [if_neg (by omega), if_pos (by omega)]; rfl
theorem skip1_next {j k : Nat} (h : k ≠ j) : skip1 j (k + 1) = skip1 j k + 1 := by unfold skip1; split <;> split <;> omega
theorem skip1_get {L : List Nat} {j k : Nat} (h : k ≠ j) : nth (L.eraseIdx j) (skip1 j k) = nth L k := by
  unfold skip1
  split
  · exact nth_eraseIdx_lt (by omega)
  · rw [nth_eraseIdx_ge (by omega), show k - 1 + 1 = k by omega]

set_option maxRecDepth 100000 in
set_option maxHeartbeats 8000000 in
theorem walk_BScript (w : World) (a0 : Option Addr) (n cap : Nat) (V : Nat → Int) (hz : InInts .i64 w a0 n V) (a1 : Option Addr) (pl pcap : Nat) (P : Nat → Int) (hp : InInts .u16 w a1 pl P) :
    Calls Ydvm.prog 7 #[.slice a0 n cap, .slice a1 pl pcap] w fun e w' => e = .returned (.bool true) ∧ Below w.heap.size w w' := by
  by_cases hbig : 1024 < n
  · have hbig' : (1024 : Int) < (n : Int) := by omega
    go_enter Ydvm.func7, Ydvm.ntmps7
    go_wp2
    go_ret
    exact ⟨rfl, Below.refl _ _⟩
  have hlen : (n : Int) ≤ 1024 := by omega
  by_cases hbig2 : 1024 < pl
  · have hbig2' : (1024 : Int) < (pl : Int) := by omega
    go_enter Ydvm.func7, Ydvm.ntmps7
    go_wp2
    go_ret
    exact ⟨rfl, Below.refl _ _⟩
  have hlen2 : (pl : Int) ≤ 1024 := by omega
  obtain ⟨⟨b, off, hE⟩, _⟩ := hz
  obtain ⟨⟨b', off', hP⟩, hPw⟩ := hp
  have HE : Hid _ := hE
  have HP : Hid _ := And.intro hP hPw
  have hbw := hE.lt
  have hbw' := hP.lt
  have hmk := make_ints n (by omega)
  have hmk0 := fun m (hm : m ≤ 1024) => make_ints0 m (by omega)
  simp only [Nat.mul_one] at hmk hmk0
  have HMK0 : Hid _ := hmk0
  have HMK : Hid _ := hmk
  obtain ⟨i0, hi0, hz0, hz1, hz2⟩ := info_parts infoInt
  clear hE hP hPw hmk0 hmk
  go_enter Ydvm.func7, Ydvm.ntmps7
  go_wp2_with fail
  refine (New_at n w).mono ?_
  rintro e w1 ⟨rfl, H1, K1, S1⟩
  have R0 := RInv.start (n : Int) n (bK n) (bV n V)
  go_wp2
  go_loopw [7] (fun i wr => ∃ (p nb : Nat) (c : Cs), p ≤ n ∧ i = .int .i64 p ∧ CacheAt wr w.heap.size nb c ∧ w.heap.size ≤ nb ∧ RInv c n n p (bK n) (bV n V) ∧ Keeps [] w wr) (fun i _ => n - (intOf i).toNat)
  case atStart => exact ⟨0, w.heap.size, _, by omega, rfl, H1, Nat.le_refl _, R0, K1⟩
  case round =>
    clear H1 K1 S1 R0
    obtain ⟨p, nb, c, hp, rfl, hC, hnb, hR, hK⟩ := hrel
    by_cases hlt : p < n
    · have hlt' : (p : Int) < (n : Int) := by omega
      have E1 := HE.out.keeps hK (by simp)
      have g0 := E1.cell p (by omega)
      obtain rfl := E1.addr (by omega)
      have hlR : (List.range p).reverse.length ≤ 1000000 := by simp; omega
      have PUT := Put_at w.heap.size nb (p : Int) (V p) c _ wr hC hR.inv.ch hlR (by rw [hR.n]; omega) hR.inv.free_ok
      have ST := bput_step hR hlt (by omega)
      have HR : Hid (RInv (c.put (p : Int) (V p)) n n (p + 1) (bK n) (bV n V) ∧ Keeps [] w wr) := ⟨ST, hK⟩
      have s1 := hK.size
      clear hC hR hK E1 ST
      go_wp2_with fail
      refine PUT.mono ?_
      rintro e w2 ⟨rfl, nb2, H2, hnb2, K2⟩
      have FIN : Hid (CacheAt w2 w.heap.size nb2 (c.put (p : Int) (V p)) ∧ w.heap.size ≤ nb2 ∧ Keeps [] w w2) := ⟨H2, by omega, HR.out.2.trans K2 (by simp; omega)⟩
      clear PUT H2 hnb2 K2
      go_wp2
      go_roundw
      case rel => exact ⟨p + 1, nb2, _, by omega, by go_num, FIN.out.1, FIN.out.2.1, HR.out.1, FIN.out.2.2⟩
      case measure => simp [intOf]; omega
    · have hlt' : ¬ (p : Int) < (n : Int) := by omega
      obtain rfl : p = n := by omega
      have hmk := HMK.out wr
      have RW := RowAt.madeInts wr 3 p (nth (List.range p).reverse) (by unfold maxLen; omega)
      rw [Nat.mul_one] at RW
      have hcl := hC.lt
      have hnl := hC.nlt
      have s1 := hK.size
      have HR : Hid (CacheAt wr w.heap.size nb c ∧ w.heap.size ≤ nb ∧ RInv c p p p (bK p) (bV p V) ∧ Keeps [] w wr) := ⟨hC, hnb, hR, hK⟩
      clear hC hnb hR hK
      go_wp2
      clear hmk
      generalize wr = wo at *
      go_loopw [9] (fun i wr => ∃ k : Nat, k ≤ p ∧ i = .int .i64 k ∧ RowAt wr wo.heap.size 3 1 p p (icell (part k (nth (List.range p).reverse))) ∧ Keeps [] wo wr) (fun i _ => p - (intOf i).toNat)
      case atStart => exact ⟨0, by omega, rfl, RW, (Keeps.refl _ _).alloc _⟩
      case round =>
        clear RW
        obtain ⟨k, hk, rfl, hL, hK⟩ := hrel
        by_cases hkl : k < p
        · have hkl' : (k : Int) < (p : Int) := by omega
          have f0 := hL.ints k hkl
          have fz := hL.frozen
          have HL : Hid (RowAt wr wo.heap.size 3 1 p p (icell (part k (nth (List.range p).reverse))) ∧ Keeps [] wo wr) := ⟨hL, hK⟩
          clear hL hK
          go_wp2
          go_roundw
          case rel => exact ⟨k + 1, by omega, by go_num, HL.out.1.stepInt _ (nth_rev p k hkl).symm, HL.out.2.setCell _ _ (.inr (Nat.le_refl _))⟩
          case measure => simp [intOf]; omega
        · have hkl' : ¬ (k : Int) < (p : Int) := by omega
          obtain rfl : k = p := by omega
          have hL2 := hL.fullInt (Nat.le_refl _)
          have hmk := HMK0.out k (by omega) wr
          have st : BSt w (wr.alloc (.cells (madeCells #[.int .i64 0] k) 3)) k V w.heap.size nb wo.heap.size k wr.heap.size k (List.range k).reverse [] c := by
            have hx := HR.out.2.2.1
            have ll := hL2.lt
            refine ⟨(HR.out.1.keeps hK (by simp) (by simp)).alloc _, hx.inv, hx.n, by rw [hx.cap]; omega, fun x hxm => ?_, by rw [List.length_reverse, List.length_range]; exact hL2.alloc _, ?_, by omega, by omega, by have := hK.size; omega, by have := hK.size; omega, by omega, Nat.le_refl _, HR.out.2.1, by omega, by have := hK.size; omega, (HR.out.2.2.2.trans hK (cs := []) (bs := []) (by simp)).alloc _⟩
            · have hxk : x < k := by simpa using hxm
              rw [hx.key x hxk, hx.val x hxk]
              unfold bK bV
              rw [show k - 1 - (k - 1 - x) = x by omega]
              exact ⟨rfl, rfl⟩
            · have := RowAt.made0 (f := icell (nth [])) wr 3 1 k #[.int .i64 0] (by unfold maxLen; omega)
              rw [Nat.mul_one] at this
              exact this
          have hsL : (List.range k).reverse.length = k := by simp
          have HST : Hid _ := And.intro st hsL
          clear st hsL hL hL2 hK
          generalize hRR : (List.range k).reverse = RR at *
          go_wp2
          clear hmk
          clear HR hRR
          generalize wr.alloc (.cells (madeCells #[.int .i64 0] k) 3) = wz at *
          generalize wr.heap.size = gb0 at *
          generalize wo.heap.size = lb0 at *
          generalize wr = wy at *
          go_loopw [8, 10, 11] (fun lv gv qv wr => ∃ (q nb lb lc gb gc : Nat) (LL GG : List Nat) (c : Cs), q ≤ pl ∧ qv = .int .i64 q ∧ lv = .slice (some ⟨lb, 0, none⟩) LL.length lc ∧ gv = .slice (some ⟨gb, 0, none⟩) GG.length gc ∧ BSt w wr k V w.heap.size nb lb lc gb gc LL GG c) (fun _ _ qv _ => pl - (intOf qv).toNat)
          case atStart => exact ⟨0, nb, lb0, k, gb0, k, RR, [], c, by omega, rfl, by rw [HST.out.2], rfl, HST.out.1⟩
          case round =>
            clear HST
            obtain ⟨q, nb, lb, lc, gb, gc, LL, GG, c, hq, rfl, rfl, rfl, st⟩ := hrel
            have hcnt := st.inv.cnt
            rw [st.cn, List.length_reverse] at hcnt
            have hLn : (LL.length : Int) ≤ 1024 := by omega
            have hGn : (GG.length : Int) ≤ 1024 := by omega
            have hLk : LL.length ≤ k := by omega
            have hGk : GG.length ≤ k := by omega
            have hsum : LL.length + GG.length ≤ k := by omega
            clear hcnt
            by_cases hql : q < pl ∧ 0 < LL.length
            · obtain ⟨hq1, hl0⟩ := hql
              have hq1' : (q : Int) < (pl : Int) := by omega
              have hl0' : (0 : Int) < (LL.length : Int) := by omega
              have hb0 : ((LL.length : Int) == 0) = false := beq_eq_false_iff_ne.2 (by omega)
              have P1 := HP.out.1.keeps st.keeps (by simp)
              have p0 := P1.cell q (by omega)
              obtain rfl := P1.addr (by omega)
              obtain ⟨hp0, hp1⟩ := wf_u16 (HP.out.2 q hq1)
              obtain ⟨j, hj0, hj1⟩ := rem_nat (P q) LL.length hl0
              have hj2 : (j : Int) < (LL.length : Int) := by omega
              obtain ⟨x, hx⟩ : ∃ x, LL[j]? = some x := ⟨_, List.getElem?_eq_getElem hj1⟩
              have hxm := List.mem_of_getElem? hx
              have hxn := st.inv.ch.lt x hxm
              rw [st.cn] at hxn
              have hxn' : (x : Int) < (k : Int) := by omega
              have g0 := st.live.ints j hj1
              rw [nth_some hx] at g0
              have DR := drop_at w.heap.size nb x c wr st.at_ (by rw [st.cn]; exact hxn) (st.inv.ch.prev_ok hx) (st.inv.ch.next_ok hx)
              rw [(st.kv x hxm).1, (st.kv x hxm).2] at DR
              have I2 := st.inv.drop hx (by rw [st.cn]; omega)
              have E1 := HE.out.keeps st.keeps (by simp)
              obtain rfl := E1.addr (by omega)
              have hbw1 := hbw (by omega)
              have HI : Hid (BSt w wr k V w.heap.size nb lb lc gb gc LL GG c ∧ Inv (c.drop x) (LL.eraseIdx j) (x :: GG.reverse) ∧ LL[j]? = some x ∧ j < LL.length) := ⟨st, I2, hx, hj1⟩
              have hcw := st.cw
              have hnw := st.nw
              have hcl := st.at_.lt
              have hnl := st.at_.nlt
              clear st P1 hx hxm I2 E1
              go_wp2_with fail
              refine DR.mono ?_
              rintro e w2 ⟨rfl, H2, K2⟩
              clear DR
              have E2 := (HE.out.keeps HI.out.1.keeps (by simp)).keeps K2 (by simp; omega)
              have g1 := E2.cell x (by omega)
              have hl2 := E2.lt (by omega)
              have s2 := K2.size
              have HK2 : Hid (Keeps [w.heap.size, nb] wr w2 ∧ CacheAt w2 w.heap.size nb (c.drop x)) := ⟨K2, H2⟩
              clear H2 K2 E2
              go_wp2_with fail
              go_quiet (fail)
              have hmk := HMK0.out LL.length (by omega)
              have RM := fun W : World => RowAt.made0 (f := icell (nth (LL.eraseIdx j))) W 3 1 LL.length #[.int .i64 0] (by unfold maxLen; omega)
              simp only [Nat.mul_one] at RM
              have K3 : Keeps [w.heap.size, nb] wr ((w2.alloc (.cells #[.int .i64 (x : Int), .int .i64 (V x)] 36)).drewN nq) := (HK2.out.1.alloc _).drewN nq
              have H3 : CacheAt ((w2.alloc (.cells #[.int .i64 (x : Int), .int .i64 (V x)] 36)).drewN nq) w.heap.size nb (c.drop x) := (HK2.out.2.alloc _).drewN nq
              have RM3 := RM ((w2.alloc (.cells #[.int .i64 (x : Int), .int .i64 (V x)] 36)).drewN nq)
              have HRM : Hid _ := RM3
              have HK3 : Hid _ := And.intro K3 H3
              clear RM RM3 K3 H3 HK2
              generalize ((w2.alloc (.cells #[.int .i64 (x : Int), .int .i64 (V x)] 36)).drewN nq) = w3 at *
              go_wp2
              clear hmk
              have hlw := HI.out.1.lw
              have hgl := HI.out.1.gone.lt
              have hll := HI.out.1.live.lt
              have s3 := HK3.out.1.size
              generalize wr = wq0 at *
              go_loopw [15, 16] (fun rv kv wq => ∃ (i rb rc : Nat), i ≤ LL.length ∧ kv = .int .i64 i ∧ rv = .slice (some ⟨rb, 0, none⟩) (skip1 j i) rc ∧ RowAt wq rb 3 1 (skip1 j i) rc (icell (nth (LL.eraseIdx j))) ∧ w3.heap.size ≤ rb ∧ Keeps [] w3 wq) (fun _ kv _ => LL.length - (intOf kv).toNat)
              case atStart => exact ⟨0, w3.heap.size, LL.length, by omega, rfl, rfl, HRM.out, Nat.le_refl _, (Keeps.refl _ _).alloc _⟩
              case round =>
                clear HRM
                obtain ⟨i, rb, rc, hi, rfl, rfl, hR, hrb, hKq⟩ := hrel
                by_cases hil : i < LL.length
                · have hil' : (i : Int) < (LL.length : Int) := by omega
                  by_cases hij : i = j
                  · subst hij
                    go_wp2
                    go_roundw
                    case rel => exact ⟨i + 1, rb, rc, by omega, by go_num, by rw [skip1_at], by rw [skip1_at]; exact hR, hrb, hKq⟩
                    case measure => simp [intOf]; omega
                  · have hijb : ((i : Int) != (j : Int)) = true := by rw [bne_iff_ne]; omega
                    have L1 := (HI.out.1.live.keeps HK3.out.1 (by simp; exact ⟨HI.out.1.lcb, HI.out.1.lnb⟩)).keeps hKq (by simp)
                    have g0 := L1.ints i hil
                    have hsk : skip1 j i ≤ 1024 := by unfold skip1; split <;> omega
                    have HX : Hid (skip1 j (i + 1) = skip1 j i + 1 ∧ nth (LL.eraseIdx j) (skip1 j i) = nth LL i ∧ Keeps [] w3 wr) := ⟨skip1_next hij, skip1_get hij, hKq⟩
                    have hrl := hR.lt
                    clear L1 hKq
                    generalize skip1 j i = m at *
                    generalize nth LL i = xv at *
                    go_wp2_with (at_builtin; refine wp_append1 _ rfl (.tmp 113) (.tmp 118) 22 rfl 3 i0 _ 1 8 Ydvm.underlying22 hi0 hz0 hz1 hz2 rfl (by omega) (.slice (some ⟨rb, 0, none⟩) m rc) m (icell (nth (LL.eraseIdx j))) rfl ?hS wr.heap.size rfl #[.int .i64 xv] 3 ?hB rfl ?h1 (by omega) (by omega) ?_)
                    case hS => exact (hR.alloc _).sliceAt
                    case hB => first | exact heap_alloc_new _ _ | exact (Array.getElem?_eq_some_iff.1 (heap_alloc_new _ _)).2
                    case h1 => first | rfl | exact ⟨rfl, rfl⟩ | (simp; done) | (simp; rfl)
                    intro b2 c2 w4 hr2 hk2 hbb
                    have hr3 := part_snoc hr2 HX.out.2.1.symm
                    have hk3 : Keeps [] w3 w4 := (HX.out.2.2.alloc _).trans hk2 (by simp [Value.ownBlock]; omega)
                    have hb3 : w3.heap.size ≤ b2 := by
                      have := HX.out.2.2.size
                      rcases hbb with h | h
                      · simp [Value.ownBlock] at h; omega
                      · (try simp at h); omega
                    have FIN : Hid (RowAt w4 b2 3 1 (m + 1) c2 (icell (nth (LL.eraseIdx j))) ∧ Keeps [] w3 w4) := ⟨hr3, hk3⟩
                    clear hr2 hk2 hbb hr3 hk3 hR g0
                    go_wp2
                    go_roundw
                    case rel => exact ⟨i + 1, b2, c2, by omega, by go_num, by rw [HX.out.1], by rw [HX.out.1]; exact FIN.out.1, hb3, FIN.out.2⟩
                    case measure => simp [intOf]; omega
                · have hil' : ¬ (i : Int) < (LL.length : Int) := by omega
                  obtain rfl : i = LL.length := by omega
                  have hel : skip1 j LL.length = (LL.eraseIdx j).length := by
                    have := HI.out.2.2.2
                    rw [List.length_eraseIdx_of_lt this]; unfold skip1; rw [if_neg (by omega)]
                  rw [hel]
                  rw [hel] at hR
                  have G1 := (HI.out.1.gone.keeps HK3.out.1 (by simp; exact ⟨HI.out.1.gcb, HI.out.1.gnb⟩)).keeps hKq (by simp)
                  have hrl := hR.lt
                  have hgw := HI.out.1.gw
                  have sq := hKq.size
                  have HQ : Hid (RowAt wr rb 3 1 (LL.eraseIdx j).length rc (icell (nth (LL.eraseIdx j))) ∧ Keeps [] w3 wr ∧ RowAt wr gb 3 1 GG.length gc (icell (nth GG))) := ⟨hR, hKq, G1⟩
                  have hgl2 := G1.lt
                  clear hel hR hKq G1
                  go_wp2_with (at_builtin; refine wp_append1 _ rfl (.tmp 121) (.tmp 123) 22 rfl 3 i0 _ 1 8 Ydvm.underlying22 hi0 hz0 hz1 hz2 rfl (by omega) (.slice (some ⟨gb, 0, none⟩) GG.length gc) GG.length (icell (nth GG)) rfl ?hS wr.heap.size rfl #[.int .i64 (x : Int)] 3 ?hB rfl ?h1 (by omega) (by omega) ?_)
                  case hS => exact (HQ.out.2.2.alloc _).sliceAt
                  case hB => first | exact heap_alloc_new _ _ | exact (Array.getElem?_eq_some_iff.1 (heap_alloc_new _ _)).2
                  case h1 => first | rfl | exact ⟨rfl, rfl⟩ | (simp; done) | (simp; rfl)
                  intro b2 c2 w4 hr2 hk2 hbb
                  have hgx : ∀ y, nth (GG ++ [x]) y = upd (nth GG) GG.length (x : Int) y := fun y => by
                    unfold upd
                    by_cases hy : y = GG.length
                    · rw [if_pos hy, hy, nth_some (x := x) (by simp)]
                    · rw [if_neg hy]
                      unfold nth
                      by_cases hy2 : y < GG.length
                      · rw [List.getElem?_append_left hy2]
                      · rw [List.getElem?_eq_none (by simp; omega), List.getElem?_eq_none (by omega)]
                  have hg3 : RowAt w4 b2 3 1 (GG ++ [x]).length c2 (icell (nth (GG ++ [x]))) := by
                    rw [List.length_append, List.length_singleton]
                    refine (hr2.congr (fun y hy => snoc_icell GG.length _ _ y hy)).congr (fun y _ => ?_)
                    unfold icell; rw [hgx]
                  have hbb2 : b2 = gb ∨ wr.heap.size + 1 ≤ b2 := by
                    rcases hbb with h | h
                    · simp [Value.ownBlock] at h; omega
                    · (try simp at h); omega
                  have hk4 : Keeps [gb] wr w4 := ((Keeps.refl [gb] wr).alloc _).trans hk2 (by simp [Value.ownBlock])
                  have st' : BSt w w4 k V w.heap.size nb rb rc b2 c2 (LL.eraseIdx j) (GG ++ [x]) (c.drop x) := by
                    have S := HI.out.1
                    have hl2 := HQ.out.1.lt
                    have eg1 := S.gcb
                    have eg2 := S.gnb
                    refine ⟨(HK3.out.2.keeps HQ.out.2.1 (by simp) (by simp)).keeps hk4 (by simp; exact S.gcb.symm) (by simp; exact S.gnb.symm), by rw [List.reverse_append]; exact HI.out.2.1, S.cn, S.cap, fun y hy => ?_, HQ.out.1.keeps hk4 (by simp; omega), hg3, by omega, by omega, by omega, by omega, by omega, S.cw, S.nw, by omega, by omega, ?_⟩
                    · have hyx : y ≠ x := fun e => by subst e; exact eraseIdx_not_mem S.inv.ch.nd HI.out.2.2.1 hy
                      have := S.kv y (List.mem_of_mem_eraseIdx hy)
                      show upd c.key x 0 y = _ ∧ upd c.val x 0 y = _
                      rw [upd_other _ _ _ _ hyx, upd_other _ _ _ _ hyx]
                      exact this
                    · exact ((S.keeps.trans HK3.out.1 (cs := [w.heap.size, nb]) (bs := []) (by simp; omega)).trans HQ.out.2.1 (cs := []) (bs := []) (by simp)).trans hk4 (cs := [gb]) (bs := []) (by simp; omega)
                  have FIN : Hid _ := st'
                  clear hr2 hk2 hbb hgx hg3 hbb2 hk4 st'
                  go_wp2
                  go_roundw
                  case rel => exact ⟨q + 1, nb, rb, rc, b2, c2, LL.eraseIdx j, GG ++ [x], c.drop x, by omega, by go_num, rfl, by simp, FIN.out⟩
                  case measure => simp [intOf]; omega
            · by_cases hq1 : q < pl
              · have hq1' : (q : Int) < (pl : Int) := by omega
                have hl0' : ¬ (0 : Int) < (LL.length : Int) := by omega
                have hch := st.inv.ch
                have q1 := st.at_.c1
                have q2 := st.at_.c2
                have q3 := st.at_.c3
                have q4 := st.at_.c4
                have q5 := st.at_.c5
                rw [hch.head] at q1
                rw [hch.tail] at q2
                rw [st.inv.free] at q3
                rw [hch.size] at q4
                rw [st.cap] at q5
                obtain ⟨na, ncap, q0, _, _⟩ := st.at_.slots
                rw [st.cn] at q0
                have HS : Hid (BSt w wr k V w.heap.size nb lb lc gb gc LL GG c) := st
                have HF : Hid (wr.cell? ⟨w.heap.size, 2, none⟩ = some (.int .i64 (prv LL LL.length)) ∧ wr.cell? ⟨w.heap.size, 3, none⟩ = some (.int .i64 (nth GG.reverse 0))) := ⟨q2, q3⟩
                clear st hch q2 q3
                go_wp2
                clear q0 q1 q4 q5
                generalize wr = wq0 at *
                go_loopw [17, 18, 19] (fun cv bv kv wq => ∃ i : Nat, i ≤ LL.length ∧ kv = .int .i64 i ∧ cv = .int .i64 (nth LL i) ∧ bv = .int .i64 (prv LL i) ∧ Keeps [] wq0 wq) (fun _ _ kv _ => LL.length - (intOf kv).toNat)
                case atStart => exact ⟨0, by omega, rfl, rfl, rfl, Keeps.refl _ _⟩
                case round =>
                  obtain ⟨i, hi, rfl, rfl, rfl, hKq⟩ := hrel
                  have C1 := HS.out.at_.keeps hKq (by simp) (by simp)
                  by_cases hil : i < LL.length
                  · omega
                  · have hil' : ¬ (i : Int) < (LL.length : Int) := by omega
                    obtain rfl : i = LL.length := by omega
                    have q2 := hKq.cell HF.out.1 (by simp)
                    have q3 := hKq.cell HF.out.2 (by simp)
                    rw [nth_ge (Nat.le_refl _)]
                    have HX : Hid (Keeps [] wq0 wr) := hKq
                    clear hKq C1
                    generalize prv LL LL.length = pv at *
                    go_wp2
                    clear q2 q3
                    generalize wr = wq1 at *
                    go_loopw [17, 21] (fun cv kv wq => ∃ d : Nat, d ≤ GG.length ∧ kv = .int .i64 ((GG.length : Int) - 1 - d) ∧ cv = .int .i64 (nth GG.reverse d) ∧ Keeps [] wq0 wq) (fun _ kv _ => (intOf kv + 1).toNat)
                    case atStart => exact ⟨0, by omega, by simp, rfl, HX.out⟩
                    case round =>
                      clear HX
                      obtain ⟨d, hd, rfl, rfl, hKq⟩ := hrel
                      by_cases hdl : d < GG.length
                      · obtain ⟨g, hg⟩ : ∃ g : Nat, g = GG.length - 1 - d := ⟨_, rfl⟩
                        have hgi : (GG.length : Int) - 1 - d = (g : Int) := by omega
                        have hgn : (g : Int) < (GG.length : Int) := by omega
                        rw [hgi]
                        obtain ⟨y, hy⟩ : ∃ y, GG.reverse[d]? = some y := ⟨_, List.getElem?_eq_getElem (by simpa using hdl)⟩
                        have hyg : GG[g]? = some y := by
                          rw [List.getElem?_reverse hdl] at hy
                          rw [hg]; exact hy
                        have hyn := HS.out.inv.flt y (List.mem_of_getElem? hy)
                        rw [HS.out.cn] at hyn
                        have hyn' : (y : Int) < (k : Int) := by omega
                        have G1 := (HS.out.gone.keeps hKq (by simp)).ints g (by omega)
                        rw [nth_some hyg] at G1
                        obtain ⟨hne, ncap, q0, R⟩ := (HS.out.at_.keeps hKq (by simp) (by simp)).row (by rw [HS.out.cn]; omega)
                        rw [HS.out.cn] at q0 R
                        obtain ⟨_, _, _, x3, _⟩ := R.nodes
                        have z3 := x3 y hyn
                        rw [HS.out.inv.fnext d y hy] at z3
                        rw [nth_some hy]
                        have HX : Hid (Keeps [] wq0 wr ∧ (GG.length : Int) - 1 - d = (g : Int)) := ⟨hKq, hgi⟩
                        clear hKq hy hyg R x3 hg hgi
                        obtain ⟨xv, hxv⟩ : ∃ xv : Int, xv = nth GG.reverse (d + 1) := ⟨_, rfl⟩
                        rw [← hxv] at z3
                        have HXV : Hid (xv = nth GG.reverse (d + 1)) := hxv
                        clear hxv
                        go_wp2
                        go_roundw
                        case rel =>
                          have := HX.out.2
                          exact ⟨d + 1, by omega, by rw [show ((GG.length : Int) - 1 - ((d + 1 : Nat) : Int)) = (g : Int) - 1 by omega], by rw [HXV.out], HX.out.1⟩
                        case measure => (try simp [intOf]); (try omega)
                      · obtain rfl : d = GG.length := by omega
                        have hi : (GG.length : Int) - 1 - GG.length = -1 := by omega
                        rw [hi, nth_ge (L := GG.reverse) (k := GG.length) (by simp)]
                        go_wp2
                        go_ret
                        exact ⟨rfl, (HS.out.keeps.trans hKq (cs := []) (bs := []) (by simp)).below (Nat.le_refl _) (by simp)⟩
              · have hq1' : ¬ (q : Int) < (pl : Int) := by omega
                have hch := st.inv.ch
                have q1 := st.at_.c1
                have q2 := st.at_.c2
                have q3 := st.at_.c3
                have q4 := st.at_.c4
                have q5 := st.at_.c5
                rw [hch.head] at q1
                rw [hch.tail] at q2
                rw [st.inv.free] at q3
                rw [hch.size] at q4
                rw [st.cap] at q5
                obtain ⟨na, ncap, q0, _, _⟩ := st.at_.slots
                rw [st.cn] at q0
                have HS : Hid (BSt w wr k V w.heap.size nb lb lc gb gc LL GG c) := st
                have HF : Hid (wr.cell? ⟨w.heap.size, 2, none⟩ = some (.int .i64 (prv LL LL.length)) ∧ wr.cell? ⟨w.heap.size, 3, none⟩ = some (.int .i64 (nth GG.reverse 0))) := ⟨q2, q3⟩
                clear st hch q2 q3
                go_wp2
                clear q0 q1 q4 q5
                generalize wr = wq0 at *
                go_loopw [17, 18, 19] (fun cv bv kv wq => ∃ i : Nat, i ≤ LL.length ∧ kv = .int .i64 i ∧ cv = .int .i64 (nth LL i) ∧ bv = .int .i64 (prv LL i) ∧ Keeps [] wq0 wq) (fun _ _ kv _ => LL.length - (intOf kv).toNat)
                case atStart => exact ⟨0, by omega, rfl, rfl, rfl, Keeps.refl _ _⟩
                case round =>
                  obtain ⟨i, hi, rfl, rfl, rfl, hKq⟩ := hrel
                  have C1 := HS.out.at_.keeps hKq (by simp) (by simp)
                  by_cases hil : i < LL.length
                  · have hil' : (i : Int) < (LL.length : Int) := by omega
                    obtain ⟨y, hy⟩ : ∃ y, LL[i]? = some y := ⟨_, List.getElem?_eq_getElem hil⟩
                    have hym := List.mem_of_getElem? hy
                    have hyn := HS.out.inv.ch.lt y hym
                    rw [HS.out.cn] at hyn
                    have hyn' : (y : Int) < (k : Int) := by omega
                    have L1 := (HS.out.live.keeps hKq (by simp)).ints i hil
                    rw [nth_some hy] at L1
                    obtain ⟨hne, ncap, q0, R⟩ := C1.row (by rw [HS.out.cn]; omega)
                    rw [HS.out.cn] at q0 R
                    obtain ⟨x0, x1, x2, x3, _⟩ := R.nodes
                    have z0 := x0 y hyn
                    have z1 := x1 y hyn
                    have z2 := x2 y hyn
                    have z3 := x3 y hyn
                    rw [(HS.out.kv y hym).1] at z0
                    rw [(HS.out.kv y hym).2] at z1
                    rw [HS.out.inv.ch.prev i y hy] at z2
                    rw [HS.out.inv.ch.next i y hy] at z3
                    have E1 := (HE.out.keeps HS.out.keeps (by simp)).keeps hKq (by simp)
                    have g1 := E1.cell y (by omega)
                    have hadr := E1.addr (by omega)
                    try subst hadr
                    try clear hadr
                    have HX : Hid (prv LL (i + 1) = (y : Int) ∧ Keeps [] wq0 wr) := ⟨by unfold prv; rw [if_neg (by omega)]; exact nth_some hy, hKq⟩
                    rw [nth_some hy]
                    clear C1 hy hym R x0 x1 x2 x3 E1 hKq
                    generalize prv LL i = pv at *
                    obtain ⟨xv, hxv⟩ : ∃ xv : Int, xv = nth LL (i + 1) := ⟨_, rfl⟩
                    rw [← hxv] at z3
                    have HXV : Hid (xv = nth LL (i + 1)) := hxv
                    clear hxv
                    go_wp2_with fail
                    go_quiet (fail)
                    go_wp2
                    go_roundw
                    case rel => exact ⟨i + 1, by omega, by go_num, by rw [HXV.out], by rw [HX.out.1], HX.out.2.drewN _⟩
                    case measure => simp [intOf]; omega
                  · have hil' : ¬ (i : Int) < (LL.length : Int) := by omega
                    obtain rfl : i = LL.length := by omega
                    have q2 := hKq.cell HF.out.1 (by simp)
                    have q3 := hKq.cell HF.out.2 (by simp)
                    rw [nth_ge (Nat.le_refl _)]
                    have HX : Hid (Keeps [] wq0 wr) := hKq
                    clear hKq C1
                    generalize prv LL LL.length = pv at *
                    go_wp2
                    clear q2 q3
                    generalize wr = wq1 at *
                    go_loopw [17, 21] (fun cv kv wq => ∃ d : Nat, d ≤ GG.length ∧ kv = .int .i64 ((GG.length : Int) - 1 - d) ∧ cv = .int .i64 (nth GG.reverse d) ∧ Keeps [] wq0 wq) (fun _ kv _ => (intOf kv + 1).toNat)
                    case atStart => exact ⟨0, by omega, by simp, rfl, HX.out⟩
                    case round =>
                      clear HX
                      obtain ⟨d, hd, rfl, rfl, hKq⟩ := hrel
                      by_cases hdl : d < GG.length
                      · obtain ⟨g, hg⟩ : ∃ g : Nat, g = GG.length - 1 - d := ⟨_, rfl⟩
                        have hgi : (GG.length : Int) - 1 - d = (g : Int) := by omega
                        have hgn : (g : Int) < (GG.length : Int) := by omega
                        rw [hgi]
                        obtain ⟨y, hy⟩ : ∃ y, GG.reverse[d]? = some y := ⟨_, List.getElem?_eq_getElem (by simpa using hdl)⟩
                        have hyg : GG[g]? = some y := by
                          rw [List.getElem?_reverse hdl] at hy
                          rw [hg]; exact hy
                        have hyn := HS.out.inv.flt y (List.mem_of_getElem? hy)
                        rw [HS.out.cn] at hyn
                        have hyn' : (y : Int) < (k : Int) := by omega
                        have G1 := (HS.out.gone.keeps hKq (by simp)).ints g (by omega)
                        rw [nth_some hyg] at G1
                        obtain ⟨hne, ncap, q0, R⟩ := (HS.out.at_.keeps hKq (by simp) (by simp)).row (by rw [HS.out.cn]; omega)
                        rw [HS.out.cn] at q0 R
                        obtain ⟨_, _, _, x3, _⟩ := R.nodes
                        have z3 := x3 y hyn
                        rw [HS.out.inv.fnext d y hy] at z3
                        rw [nth_some hy]
                        have HX : Hid (Keeps [] wq0 wr ∧ (GG.length : Int) - 1 - d = (g : Int)) := ⟨hKq, hgi⟩
                        clear hKq hy hyg R x3 hg hgi
                        obtain ⟨xv, hxv⟩ : ∃ xv : Int, xv = nth GG.reverse (d + 1) := ⟨_, rfl⟩
                        rw [← hxv] at z3
                        have HXV : Hid (xv = nth GG.reverse (d + 1)) := hxv
                        clear hxv
                        go_wp2
                        go_roundw
                        case rel =>
                          have := HX.out.2
                          exact ⟨d + 1, by omega, by rw [show ((GG.length : Int) - 1 - ((d + 1 : Nat) : Int)) = (g : Int) - 1 by omega], by rw [HXV.out], HX.out.1⟩
                        case measure => (try simp [intOf]); (try omega)
                      · obtain rfl : d = GG.length := by omega
                        have hi : (GG.length : Int) - 1 - GG.length = -1 := by omega
                        rw [hi, nth_ge (L := GG.reverse) (k := GG.length) (by simp)]
                        go_wp2
                        go_ret
                        exact ⟨rfl, (HS.out.keeps.trans hKq (cs := []) (bs := []) (by simp)).below (Nat.le_refl _) (by simp)⟩
end Go.Proofs.Ymbrdv
