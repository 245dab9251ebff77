/- gsound. -/
import Derived.Test.YmbrdwBuildG
import Derived.BigQuiet
namespace Go.Proofs.Ymbrdw
open Go.RowKit

theorem infoBool : (Ydwm.prog.info? 4).map (fun i => (i.zero, i.size, i.bytes)) = some (some (.bool false), 1, 1) := by kernel_rfl
/-- make([]bool, n) -/
theorem make_bools (n : Nat) (hn : n ≤ 1000000) (w : World) : (Instr.makeSlice 71 (.int .i64 (n : Int)) (.int .i64 (n : Int))).run Ydwm.prog w = .ok (.slice (some ⟨w.heap.size, 0, none⟩) n n) (w.alloc (.cells (madeCells #[.bool false] n) 4)) := by
  obtain ⟨i, hi, hz, hs, hb⟩ := info_parts infoBool
  have := run_make (P := Ydwm.prog) w 71 4 i _ Ydwm.underlying71 hi hz .i64 .i64 n n (by omega) (Int.le_refl _) (by rw [hb]; omega) (by omega)
  rw [hs, Nat.mul_one] at this
  simpa [Value.cells] using this
theorem madeBools (w : World) (n : Nat) (hm : n ≤ maxLen) : RowAt (w.alloc (.cells (madeCells #[.bool false] n) 4)) w.heap.size 4 1 n n (fun _ => .bool false) := by
  have := RowAt.made w 4 1 n #[.bool false] rfl hm
  rw [Nat.mul_one] at this
  exact this.congr fun j _ => by rw [Nat.mod_one]; rfl
theorem part_snoc {w : World} {b cap m : Nat} {f : Nat → Int} {x : Int} (r : RowAt w b 3 1 (m + 1) cap (snoc 1 m (icell f) #[.int .i64 x])) (hx : x = f m) : RowAt w b 3 1 (m + 1) cap (icell f) := by
  refine (r.congr (fun j hj => snoc_icell m f x j hj)).congr (fun j _ => ?_)
  subst hx
  unfold icell upd
  split
  · rename_i e; rw [e]
  · rfl
/-- the marks of the first t slots of a list, and of the slots of another -/
def marks (A L : List Nat) (t : Nat) (x : Nat) : Value := .bool (decide (x ∈ A ∨ x ∈ L.take t))
theorem marks_no {A L : List Nat} {t x : Nat} (hA : x ∉ A) (hL : L.Nodup) (hx : L[t]? = some x) : marks A L t x = .bool false := by
  unfold marks
  refine congrArg Value.bool (decide_eq_false fun h => ?_)
  rcases h with h | h
  · exact hA h
  · obtain ⟨j, hj⟩ := List.getElem?_of_mem h
    rw [List.getElem?_take] at hj
    split at hj
    · rename_i hjt
      have := nodup_idx hL hj hx
      omega
    · simp at hj
theorem marks_step {A L : List Nat} {t x : Nat} (hx : L[t]? = some x) (y : Nat) : (if y = x then Value.bool true else marks A L t y) = marks A L (t + 1) y := by
  have ht : t < L.length := (List.getElem?_eq_some_iff.1 hx).1
  have hxe : L[t] = x := (List.getElem?_eq_some_iff.1 hx).2
  unfold marks
  rw [List.take_succ_eq_append_getElem ht, hxe]
  by_cases e : y = x
  · rw [if_pos e, decide_eq_true]; rw [e]; exact .inr (List.mem_append.2 (.inr (List.mem_singleton.2 rfl)))
  · rw [if_neg e]
    refine congrArg Value.bool (decide_eq_decide.2 ?_)
    constructor
    · rintro (h | h)
      · exact .inl h
      · exact .inr (List.mem_append.2 (.inl h))
    · rintro (h | h)
      · exact .inl h
      · rcases List.mem_append.1 h with h | h
        · exact .inr h
        · exact absurd (List.mem_singleton.1 h) e
theorem marks_full (L F : List Nat) (y : Nat) : marks [] L L.length y = marks L F 0 y := by
  unfold marks; simp

/-- the key of place j -/
def lkey (c : Cs) (L : List Nat) (j : Nat) : Int := c.key (nth L j).toNat
theorem lkey_ne {c : Cs} {L F : List Nat} (h : Inv c L F) {i j : Nat} (hij : i < j) (hj : j < L.length) : lkey c L i ≠ lkey c L j := by
  unfold lkey
  rw [nth_lt (by omega), nth_lt hj, Int.toNat_natCast, Int.toNat_natCast]
  have := List.pairwise_iff_getElem.1 h.keys i j (by simp; omega) (by simpa using hj) hij
  simpa using this

set_option maxRecDepth 100000 in
set_option maxHeartbeats 8000000 in
theorem gsound_at (w : World) (cb nb : Nat) (c : Cs) (L F : List Nat) (H : CacheAt w cb nb c) (I : Inv c L F) (hn : c.n ≤ 2000) :
    Calls Ydwm.prog 28 #[.pointer (some ⟨cb, 0, none⟩)] w fun e w' => e = .returned (.bool true) ∧ Keeps [] w w' := by
  have hs := I.ch.size
  have hcnt := I.cnt
  have hcap := I.ncap
  obtain ⟨na, ncap, q0, _, _⟩ := H.slots
  have q1 := H.c1
  have q2 := H.c2
  have q3 := H.c3
  have q4 := H.c4
  have q5 := H.c5
  rw [I.ch.head] at q1
  rw [I.ch.tail] at q2
  rw [I.free] at q3
  rw [hs] at q4
  have hl := H.lt
  have hnl := H.nlt
  obtain ⟨N, hN⟩ : ∃ N, N = c.n := ⟨_, rfl⟩
  obtain ⟨C, hC⟩ : ∃ C, C = c.cap := ⟨_, rfl⟩
  rw [← hN] at q0 hcap hn hcnt
  rw [← hC] at q5 hcap
  have h1 : ¬ (L.length : Int) < 0 := by omega
  have h2 : ¬ C < (L.length : Int) := by omega
  have h3 : ¬ (N : Int) < (L.length : Int) := by omega
  have h4 : ¬ C < (N : Int) := by omega
  have hd1 : decide ((L.length : Int) < 0) = false := decide_eq_false h1
  have hd2 : decide (C < (L.length : Int)) = false := decide_eq_false h2
  have hd3 : decide ((N : Int) < (L.length : Int)) = false := decide_eq_false h3
  have hd3' : decide (N < L.length) = false := decide_eq_false (by omega)
  have hd4 : decide (C < (N : Int)) = false := decide_eq_false h4
  have hll : (L.length : Int) ≤ 2000 := by omega
  have hN' : (N : Int) ≤ 2000 := by omega
  have hmb := make_bools N (by omega)
  have hmi := make_ints0 N (by omega)
  simp only [Nat.mul_one] at hmi
  have HI : Hid (CacheAt w cb nb c ∧ Inv c L F ∧ N = c.n ∧ N = L.length + F.length) := ⟨H, I, hN, hcnt⟩
  have HQ : Hid (w.cell? ⟨cb, 2, none⟩ = some (.int .i64 (prv L L.length)) ∧ w.cell? ⟨cb, 3, none⟩ = some (.int .i64 (nth F 0)) ∧ w.cell? ⟨cb, 4, none⟩ = some (.int .i64 (L.length : Int)) ∧ w.cell? ⟨cb, 0, none⟩ = some (.slice na N ncap)) := ⟨q2, q3, q4, q0⟩
  obtain ⟨i0, hi0, hz0, hz1, hz2⟩ := info_parts infoInt
  clear H I hN hC hcnt hcap hs q2 q3
  go_enter Ydwm.func28, Ydwm.ntmps28
  go_wp2_with fail
  go_quiet (fail)
  have KD : Keeps [] w (w.drewN nq) := (Keeps.refl _ _).drewN nq
  have q0 := KD.cell q0 (by simp)
  have q1 := KD.cell q1 (by simp)
  have q4 := KD.cell q4 (by simp)
  have hl2 : cb < (w.drewN nq).heap.size := Nat.lt_of_lt_of_le hl KD.size
  have sD := KD.size
  clear hd1 hd2 hd3 hd3' hd4 h1 h2 h3 h4 q5
  generalize w.drewN nq = wd at *
  have RB := madeBools wd N (by unfold maxLen; omega)
  have RK := RowAt.made0 (f := icell (lkey c L)) (wd.alloc (.cells (madeCells #[.bool false] N) 4)) 3 1 N #[.int .i64 0] (by unfold maxLen; omega)
  rw [Nat.mul_one] at RK
  have RB2 := RB.alloc (.cells (madeCells #[.int .i64 0] N) 3)
  have KB : Keeps [] w ((wd.alloc (.cells (madeCells #[.bool false] N) 4)).alloc (.cells (madeCells #[.int .i64 0] N) 3)) := ((KD.alloc _).alloc _)
  rw [World.size_alloc] at RK
  have HB : Hid _ := And.intro RB2 (And.intro RK KB)
  clear RB RK RB2 KB KD
  go_wp2
  clear q0 q1 q4 hmb hmi
  go_loopw [4, 5, 6, 7] (fun kv pv iv nv wr => ∃ (t kb kc : Nat), t ≤ L.length ∧ nv = .int .i64 t ∧ iv = .int .i64 (nth L t) ∧ pv = .int .i64 (prv L t) ∧ kv = .slice (some ⟨kb, 0, none⟩) t kc ∧ RowAt wr kb 3 1 t kc (icell (lkey c L)) ∧ RowAt wr wd.heap.size 4 1 N N (marks [] L t) ∧ kb ≠ wd.heap.size ∧ w.heap.size ≤ kb ∧ Keeps [] w wr) (fun _ _ _ nv _ => L.length - (intOf nv).toNat)
  case atStart => exact ⟨0, wd.heap.size + 1, N, by omega, rfl, rfl, rfl, rfl, HB.out.2.1, HB.out.1.congr (fun j _ => by unfold marks; simp), by omega, by omega, HB.out.2.2⟩
  case round =>
    clear HB
    obtain ⟨t, kb, kc, ht, rfl, rfl, rfl, rfl, hR, hM, hks, hkw, hK⟩ := hrel
    have q4 := hK.cell HQ.out.2.2.1 (by simp)
    by_cases htl : t < L.length
    · have htl' : (t : Int) < (L.length : Int) := by omega
      obtain ⟨x, hx⟩ : ∃ x, L[t]? = some x := ⟨_, List.getElem?_eq_getElem htl⟩
      have I := HI.out.2.1
      have hxn := I.ch.lt x (List.mem_of_getElem? hx)
      rw [← HI.out.2.2.1] at hxn
      have hxn' : (x : Int) < (N : Int) := by omega
      have hx0 : ¬ (x : Int) < 0 := by omega
      have hxN : ¬ (N : Int) ≤ (x : Int) := by omega
      obtain ⟨hne, ncap2, q0, R⟩ := (HI.out.1.keeps hK (by simp) (by simp)).row (by rw [← HI.out.2.2.1]; omega)
      rw [← HI.out.2.2.1] at q0 R
      obtain ⟨x0, _, x2, x3, _⟩ := R.nodes
      have z0 := x0 x hxn
      have z2 := x2 x hxn
      have z3 := x3 x hxn
      rw [I.ch.prev t x hx] at z2
      rw [I.ch.next t x hx] at z3
      have hlk : lkey c L t = c.key x := by unfold lkey; rw [nth_some hx, Int.toNat_natCast]
      rw [← hlk] at z0
      have m0 := hM.cell x (by omega)
      rw [marks_no (by simp) I.ch.nd hx] at m0
      have mz := hM.frozen
      have hM2 := (hM.set x (.bool true)).congr (fun y _ => marks_step hx y)
      have HX : Hid (L[t]? = some x ∧ prv L (t + 1) = (x : Int) ∧ Keeps [] w wr ∧ RowAt wr kb 3 1 t kc (icell (lkey c L)) ∧ ∀ j, j < t → lkey c L j ≠ lkey c L t) := ⟨hx, by unfold prv; rw [if_neg (by omega)]; exact nth_some hx, hK, hR, fun j hj => lkey_ne I hj htl⟩
      have HM2 : Hid _ := hM2
      have hkl := hR.lt
      have hml := hM.lt
      have hcl : cb < wr.heap.size := Nat.lt_of_lt_of_le hl hK.size
      have hnl2 : nb < wr.heap.size := Nat.lt_of_lt_of_le hnl hK.size
      have hcs : cb ≠ wd.heap.size := by omega
      have hns : nb ≠ wd.heap.size := by omega
      have R2 := hR.setOther ⟨wd.heap.size, x, none⟩ (.bool true) hks
      have K2 := hK.setCell ⟨wd.heap.size, x, none⟩ (.bool true) (.inr sD)
      have HR2 : Hid (RowAt (wr.setCell ⟨wd.heap.size, x, none⟩ (.bool true)) kb 3 1 t kc (icell (lkey c L)) ∧ Keeps [] w (wr.setCell ⟨wd.heap.size, x, none⟩ (.bool true))) := ⟨R2, K2⟩
      rw [nth_some hx]
      clear hM hM2 hK hR I hx R x0 x2 x3 hlk R2 K2
      obtain ⟨kx, hkx⟩ : ∃ kx, kx = lkey c L t := ⟨_, rfl⟩
      rw [← hkx] at z0
      have HKX : Hid (kx = lkey c L t) := hkx
      obtain ⟨xv, hxv⟩ : ∃ xv : Int, xv = nth L (t + 1) := ⟨_, rfl⟩
      rw [← hxv] at z3
      have HXV : Hid (xv = nth L (t + 1)) := hxv
      clear hkx hxv
      generalize prv L t = pv at *
      go_wp2
      clear z0 z2 z3 m0 mz q0 q4
      have hwl : (wr.setCell ⟨wd.heap.size, x, none⟩ (.bool true)).heap.size = wr.heap.size := by simp
      have hwl2 : kb < (wr.setCell ⟨wd.heap.size, x, none⟩ (.bool true)).heap.size := by omega
      have hwl3 : wd.heap.size < (wr.setCell ⟨wd.heap.size, x, none⟩ (.bool true)).heap.size := by omega
      clear hwl
      generalize wr.setCell ⟨wd.heap.size, x, none⟩ (.bool true) = wm at *
      go_loopw [119] (fun iv wq => ∃ u : Nat, u ≤ t ∧ iv = .int .i64 u ∧ wq = wm) (fun iv _ => t - (intOf iv).toNat)
      case atStart => exact ⟨0, by omega, rfl, rfl⟩
      case round =>
        obtain ⟨u, hu, rfl, hw⟩ := hrel
        subst hw
        by_cases hut : u < t
        · have hut' : (u : Int) < (t : Int) := by omega
          have g0 := HR2.out.1.ints u hut
          have hne2 : (lkey c L u == kx) = false := by rw [HKX.out]; exact beq_eq_false_iff_ne.2 (HX.out.2.2.2.2 u hut)
          generalize lkey c L u = ku at *
          go_wp2
          go_roundw
          case rel => exact ⟨u + 1, by omega, by go_num, trivial⟩
          case measure => simp [intOf]; omega
        · have hut' : ¬ (u : Int) < (t : Int) := by omega
          obtain rfl : u = t := by omega
          have hsn := HR2.out.1
          go_wp2_with (at_builtin; refine wp_append1 _ rfl (.tmp 127) (.tmp 129) 35 rfl 3 i0 _ 1 8 Ydwm.underlying35 hi0 hz0 hz1 hz2 rfl (by omega) (.slice (some ⟨kb, 0, none⟩) u kc) u (icell (lkey c L)) rfl ?hS _ rfl #[.int .i64 kx] 3 ?hB rfl ?h1 (by omega) (by omega) ?_)
          case hS => exact (hsn.alloc _).sliceAt
          case hB => first | exact heap_alloc_new _ _ | exact (Array.getElem?_eq_some_iff.1 (heap_alloc_new _ _)).2
          case h1 => first | rfl | exact ⟨rfl, rfl⟩ | (simp; done) | (simp; rfl)
          intro b2 c2 w4 hr2 hk2 hbb
          have hr3 := part_snoc hr2 HKX.out
          have hk3 : Keeps [] w w4 := (HR2.out.2.alloc _).trans hk2 (by simp [Value.ownBlock]; omega)
          have hb3 : w.heap.size ≤ b2 ∧ b2 ≠ wd.heap.size := by
            have := HR2.out.2.size
            rcases hbb with h | h
            · simp [Value.ownBlock] at h; omega
            · (try simp at h); omega
          have hM4 := (HM2.out.alloc (.cells #[.int .i64 kx] 3)).keeps hk2 (by simp [Value.ownBlock]; omega)
          have I := HI.out.2.1
          obtain ⟨_, ncap3, q0, R⟩ := (HI.out.1.keeps hk3 (by simp) (by simp)).row (by rw [← HI.out.2.2.1]; omega)
          rw [← HI.out.2.2.1] at q0 R
          obtain ⟨_, _, _, x3, _⟩ := R.nodes
          have z3 := x3 x hxn
          rw [I.ch.next u x HX.out.1, ← HXV.out] at z3
          have FIN : Hid (RowAt w4 b2 3 1 (u + 1) c2 (icell (lkey c L)) ∧ RowAt w4 wd.heap.size 4 1 N N (marks [] L (u + 1)) ∧ b2 ≠ wd.heap.size ∧ w.heap.size ≤ b2 ∧ Keeps [] w w4) := ⟨hr3, hM4, hb3.2, hb3.1, hk3⟩
          clear hr2 hk2 hbb hr3 hk3 hb3 hM4 I R x3 hsn
          go_wp2
          go_roundw
          case rel => exact ⟨u + 1, b2, c2, by omega, by go_num, by rw [HXV.out], by rw [HX.out.2.1], rfl, FIN.out.1, FIN.out.2.1, FIN.out.2.2.1, FIN.out.2.2.2.1, FIN.out.2.2.2.2⟩
          case measure => simp [intOf]; omega
    · have htl' : ¬ (t : Int) < (L.length : Int) := by omega
      obtain rfl : t = L.length := by omega
      have q2 := hK.cell HQ.out.1 (by simp)
      have q3 := hK.cell HQ.out.2.1 (by simp)
      have q0 := hK.cell HQ.out.2.2.2 (by simp)
      have hM2 := hM.congr (fun j _ => marks_full L F j)
      have HM : Hid (RowAt wr wd.heap.size 4 1 N N (marks L F 0) ∧ Keeps [] w wr) := ⟨hM2, hK⟩
      rw [nth_ge (Nat.le_refl _)]
      clear hR hM hM2 hK
      generalize prv L L.length = pv at *
      go_wp2
      clear q0 q2 q3 q4
      generalize wr = wm at *
      go_loopw [6, 11] (fun iv nv wr => ∃ d : Nat, d ≤ F.length ∧ nv = .int .i64 ((L.length + d : Nat) : Int) ∧ iv = .int .i64 (nth F d) ∧ RowAt wr wd.heap.size 4 1 N N (marks L F d) ∧ Keeps [] w wr) (fun _ nv _ => N - (intOf nv).toNat)
      case atStart => exact ⟨0, by omega, rfl, rfl, HM.out.1, HM.out.2⟩
      case round =>
        clear HM
        obtain ⟨d, hd, rfl, rfl, hM, hK⟩ := hrel
        have q0 := hK.cell HQ.out.2.2.2 (by simp)
        have hNe := HI.out.2.2.2
        by_cases hdl : d < F.length
        · obtain ⟨p, hp⟩ : ∃ p, p = L.length + d := ⟨_, rfl⟩
          have hpN : (p : Int) < (N : Int) := by omega
          rw [← hp]
          have HP : Hid (p = L.length + d ∧ p < N) := ⟨hp, by omega⟩
          obtain ⟨x, hx⟩ : ∃ x, F[d]? = some x := ⟨_, List.getElem?_eq_getElem hdl⟩
          have I := HI.out.2.1
          have hxm := List.mem_of_getElem? hx
          have hxn := I.flt x hxm
          rw [← HI.out.2.2.1] at hxn
          have hxn' : (x : Int) < (N : Int) := by omega
          have hx0 : ¬ (x : Int) < 0 := by omega
          have hxN : ¬ (N : Int) ≤ (x : Int) := by omega
          obtain ⟨_, ncap2, q0', R⟩ := (HI.out.1.keeps hK (by simp) (by simp)).row (by rw [← HI.out.2.2.1]; omega)
          rw [← HI.out.2.2.1] at q0' R
          obtain ⟨_, _, _, x3, _⟩ := R.nodes
          have z3 := x3 x hxn
          rw [I.fnext d x hx] at z3
          have m0 := hM.cell x (by omega)
          rw [marks_no (fun h => I.disj h hxm) I.fnd hx] at m0
          have mz := hM.frozen
          have hM2 := (hM.set x (.bool true)).congr (fun y _ => marks_step hx y)
          have hcl : cb < wr.heap.size := Nat.lt_of_lt_of_le hl hK.size
          have hcs : cb ≠ wd.heap.size := by omega
          have hns : nb ≠ wd.heap.size := by omega
          have FIN : Hid (RowAt (wr.setCell ⟨wd.heap.size, x, none⟩ (.bool true)) wd.heap.size 4 1 N N (marks L F (d + 1)) ∧ Keeps [] w (wr.setCell ⟨wd.heap.size, x, none⟩ (.bool true))) := ⟨hM2, hK.setCell _ _ (.inr sD)⟩
          rw [nth_some hx]
          obtain ⟨xv, hxv⟩ : ∃ xv : Int, xv = nth F (d + 1) := ⟨_, rfl⟩
          rw [← hxv] at z3
          have HXV : Hid (xv = nth F (d + 1)) := hxv
          clear hxv hM hM2 hK I hx hxm R x3 q0 hp hNe
          go_wp2
          go_roundw
          case rel => exact ⟨d + 1, by omega, by rw [show (((L.length + (d + 1) : Nat)) : Int) = (p : Int) + 1 by have := HP.out.1; omega], by rw [HXV.out], FIN.out.1, FIN.out.2⟩
          case measure => have := HP.out.2; simp [intOf]; omega
        · obtain rfl : d = F.length := by omega
          obtain ⟨p, hp⟩ : ∃ p, p = L.length + F.length := ⟨_, rfl⟩
          have hpN : ¬ (p : Int) < (N : Int) := by omega
          rw [← hp]
          rw [nth_ge (Nat.le_refl _)]
          have FIN : Hid (Keeps [] w wr) := hK
          clear hp hNe hM hK
          go_wp2
          go_ret
          exact ⟨rfl, FIN.out⟩
end Go.Proofs.Ymbrdw
