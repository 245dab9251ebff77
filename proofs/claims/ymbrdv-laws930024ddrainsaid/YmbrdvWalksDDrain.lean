/- The law DDrain: her walk. -/
import Derived.Test.YmbrdvBuildD
import Derived.Test.YmbrdvTouch
namespace Go.Proofs.Ymbrdv
open Go.RowKit

theorem mget_length (M : List (Int × Int)) (k : Int) : (mget M k).length = M.length := by
  unfold mget
  cases h : idx k M with
  | none => rfl
  | some j =>
    have hj : j < M.length := by obtain ⟨e, h1, _, _⟩ := idx_some h; exact (List.getElem?_eq_some_iff.1 h1).1
    dsimp only
    rw [List.length_cons, List.length_eraseIdx_of_lt hj]; omega
theorem held_nil {w : World} {cb nb N : Nat} {c : Cs} {cap : Int} (h : Held w cb nb c N cap []) : c.head = -1 ∧ c.tail = -1 := by
  obtain ⟨L, F, I, e⟩ := h.inv
  have : L = [] := by cases L with | nil => rfl | cons x t => simp [ents] at e
  subst this
  exact ⟨by rw [I.ch.head]; rfl, by rw [I.ch.tail]; rfl⟩
theorem take_last {W : List (Int × Int)} {m : Nat} (h : m < W.length) : (W.take (m + 1)).getLastD (0, 0) = (eK W m, eV W m) ∧ (W.take (m + 1)).dropLast = W.take m ∧ (!(W.take (m + 1)).isEmpty) = true := by
  rw [List.take_succ_eq_append_getElem h, ← eKV_get h]
  exact ⟨by simp, by simp, by simp⟩

set_option maxRecDepth 100000 in
set_option maxHeartbeats 4000000 in
theorem walk_DDrain (w : World) (a0 : Int) (w0 : (Lit.int .u16 a0).wf = true) (a1 : Option Addr) (len cap : Nat) (z : Nat → Nat → Int) (hz : InStr [.u8, .i64, .i64] w a1 len z) (pick : Int) (w2 : (Lit.int .u8 pick).wf = true) (key : Int) (_w3 : (Lit.int .i64 key).wf = true) :
    Calls Ydvm.prog 13 #[.int .u16 a0, .slice a1 len cap, .int .u8 pick, .int .i64 key] w fun e w' => e = .returned (.bool true) ∧ Below w.heap.size w w' := by
  by_cases hbig : 1024 < len
  · have hbig' : (1024 : Int) < (len : Int) := by omega
    go_enter Ydvm.func13, Ydvm.ntmps13
    go_wp2
    go_ret
    exact ⟨rfl, Below.refl _ _⟩
  have hlen : (len : Int) ≤ 1024 := by omega
  obtain ⟨b, off, hS⟩ := Script.of hz
  obtain ⟨h00, h01⟩ := wf_u16 w0
  obtain ⟨h10, h11⟩ := wf_u8 w2
  have hmx : max a0 0 = a0 := by omega
  have hen := entry_neq
  have hel := entry_eql
  clear hz w0 w2 _w3
  go_enter Ydvm.func13, Ydvm.ntmps13
  go_wp2_with fail
  refine (dbuild_at w a0 b off a1 len cap z hS (by omega)).mono ?_
  rintro e w1 ⟨nb, c, rfl, H1, hnb, K1⟩
  rw [hmx] at H1
  generalize splay 4 (-1) 2 3 a0 z [] len = M at *
  have s1 := K1.size
  have hcl := H1.lt
  have hnl := H1.nlt
  have hMl := H1.len_le
  clear hS
  go_wp2_with fail
  refine (Order_held H1 (by omega)).mono ?_
  rintro e w2 ⟨b2, ec2, rfl, R2, hb2, K2⟩
  have s2 := K2.size
  have H2 := H1.keeps K2 (by simp) (by simp)
  have KA := K1.trans K2 (cs := []) (bs := []) (by simp)
  clear K1 K2 H1
  go_wp2_with fail
  refine (dkey_at w2 M b2 ec2 pick key R2 (by omega) h10 h11).mono ?_
  rintro e w3 ⟨rfl, K3⟩
  have s3 := K3.size
  have H3 := H2.keeps K3 (by simp) (by simp)
  have R3 := R2.keeps K3 (by simp)
  have KB := KA.trans K3 (cs := []) (bs := []) (by simp)
  generalize dkeyOf M pick key = ky at *
  clear K3 H2 R2 KA
  go_wp2_with fail
  refine (dtouch_at w3 M b2 ec2 ky R3 (by omega)).mono ?_
  rintro e w4 ⟨b4, ec4, rfl, R4, hb4, K4⟩
  have s4 := K4.size
  have H4 := H3.keeps K4 (by simp) (by simp)
  have KC := KB.trans K4 (cs := []) (bs := []) (by simp)
  have hWl := mget_length M ky
  clear K4 H3 R3 KB
  go_wp2_with fail
  refine (Get_held ky H4 (by omega)).mono ?_
  rintro e w5 ⟨rfl, H5, K5⟩
  have s5 := K5.size
  have R5 := R4.keeps K5 (by simp; omega)
  have KD := KC.trans K5 (cs := [w.heap.size, nb]) (bs := []) (by simp; omega)
  have HI : Hid (Held w5 w.heap.size nb (c.get ky) len a0 (mget M ky) ∧ RowAt w5 b4 36 2 (mget M ky).length ec4 (ecell (eK (mget M ky)) (eV (mget M ky))) ∧ Keeps [] w w5) := ⟨H5, R5, KD⟩
  clear H4 R4 KC K5 H5 R5 KD
  generalize mget M ky = W at *
  have hWi : (W.length : Int) ≤ 1025 := by omega
  go_wp2
  go_loopw [17] (fun i wr => ∃ k : Nat, ∃ c' : Cs, k ≤ W.length ∧ i = .int .i64 ((k : Int) - 1) ∧ Held wr w.heap.size nb c' len a0 (W.take k) ∧ RowAt wr b4 36 2 W.length ec4 (ecell (eK W) (eV W)) ∧ Keeps [] w wr) (fun i _ => ((intOf i) + 1).toNat)
  case atStart => exact ⟨W.length, c.get ky, Nat.le_refl _, by rw [hWl], by rw [List.take_length]; exact HI.out.1, HI.out.2.1, HI.out.2.2⟩
  case round =>
    obtain ⟨k, c', hk, rfl, H6, R6, K6⟩ := hrel
    have s6 := K6.size
    have hc6 := H6.lt
    have hn6 := H6.nlt
    cases k with
    | zero =>
      have EV := Evict_held H6 (by omega)
      simp at EV
      have HQ : Hid (Keeps [] w wr) := K6
      clear H6 R6 K6
      go_wp2_with fail
      refine EV.mono ?_
      rintro e w7 ⟨rfl, H7, K7⟩
      have K8 := HQ.out.trans K7 (cs := [w.heap.size, nb]) (bs := []) (by simp; omega)
      have hc7 := H7.lt
      obtain ⟨z1, z2⟩ := held_nil H7
      have q1 := (H7.at_.alloc (.cells #[.int .i64 0, .int .i64 0] 36)).c1
      have q2 := (H7.at_.alloc (.cells #[.int .i64 0, .int .i64 0] 36)).c2
      rw [z1] at q1
      rw [z2] at q2
      clear EV H7 K7
      go_wp2
      go_ret
      exact ⟨rfl, (K8.alloc _).below (Nat.le_refl _) (by simp)⟩
    | succ m =>
      have hlt : m < W.length := by omega
      obtain ⟨d1, d2, d3⟩ := take_last hlt
      have EV := Evict_held H6 (by omega)
      rw [d1, d2, d3] at EV
      have HQ : Hid (Keeps [] w wr ∧ RowAt wr b4 36 2 W.length ec4 (ecell (eK W) (eV W))) := ⟨K6, R6⟩
      have hm0 : (0 : Int) ≤ (m : Int) + 1 - 1 := by omega
      have hbl := R6.lt
      clear H6 R6 K6 d1 d2 d3
      have hm1 : ((m + 1 : Nat) : Int) - 1 = (m : Int) := by omega
      rw [hm1]
      have hm2 : (0 : Int) ≤ (m : Int) := by omega
      have hm3 : (m : Int) < (W.length : Int) := by omega
      clear hm1 hm0
      go_wp2_with fail
      refine EV.mono ?_
      rintro e w7 ⟨rfl, H7, K7⟩
      have s7 := K7.size
      have K8 := HQ.out.1.trans K7 (cs := [w.heap.size, nb]) (bs := []) (by simp; omega)
      have R8 := HQ.out.2.keeps K7 (by simp; omega)
      obtain ⟨e0, e1⟩ := (R8.alloc (.cells #[.int .i64 (eK W m), .int .i64 (eV W m)] 36)).ents m hlt
      have hbl8 := R8.lt
      have HN : Hid (Held w7 w.heap.size nb c'.evict len a0 (W.take m) ∧ RowAt w7 b4 36 2 W.length ec4 (ecell (eK W) (eV W)) ∧ Keeps [] w w7) := ⟨H7, R8, K8⟩
      clear EV H7 K7 R8 K8
      go_wp2
      go_quiet (fail)
      go_wp2
      go_roundw
      case rel => exact ⟨m, c'.evict, by omega, by go_num, (HN.out.1.alloc _).drewN _, (HN.out.2.1.alloc _).keeps ((Keeps.refl [] _).drewN _) (by simp), (HN.out.2.2.alloc _).drewN _⟩
      case measure => (try simp [intOf]) <;> (try omega)
end Go.Proofs.Ymbrdv
