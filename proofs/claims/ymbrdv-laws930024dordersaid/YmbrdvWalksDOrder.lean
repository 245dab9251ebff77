/- The law DOrder: her walk. -/
import Derived.Test.YmbrdvBuildD
import Derived.Test.YmbrdvTouch
namespace Go.Proofs.Ymbrdv
open Go.RowKit

theorem mget_length (M : List (Int × Int)) (k : Int) : (mget M k).length = M.length := by
  unfold mget
  cases h : idx k M with
  | none => rfl
  | some j =>
    have hj : j < M.length := by obtain ⟨e, h1, _, _⟩ := idx_some h; exact (List.getElem?_eq_some_iff.1 h1).1
    dsimp only
    rw [List.length_cons, List.length_eraseIdx_of_lt hj]; omega
theorem CacheAt.nodes {w : World} {cb nb : Nat} {c : Cs} (h : CacheAt w cb nb c) : ∃ na nc, w.cell? ⟨cb, 0, none⟩ = some (.slice na c.n nc) := by
  rcases h.nod with ⟨_, h1, h2⟩ | ⟨_, nc, h1, _⟩
  · exact ⟨none, 0, by rw [h2, h1]⟩
  · exact ⟨_, nc, h1⟩

set_option maxRecDepth 100000 in
set_option maxHeartbeats 4000000 in
theorem walk_DOrder (w : World) (a0 : Int) (w0 : (Lit.int .u16 a0).wf = true) (a1 : Option Addr) (len cap : Nat) (z : Nat → Nat → Int) (hz : InStr [.u8, .i64, .i64] w a1 len z) (pick : Int) (w2 : (Lit.int .u8 pick).wf = true) (key : Int) (_w3 : (Lit.int .i64 key).wf = true) :
    Calls Ydvm.prog 12 #[.int .u16 a0, .slice a1 len cap, .int .u8 pick, .int .i64 key] w fun e w' => e = .returned (.bool true) ∧ Below w.heap.size w w' := by
  by_cases hbig : 1024 < len
  · have hbig' : (1024 : Int) < (len : Int) := by omega
    go_enter Ydvm.func12, Ydvm.ntmps12
    go_wp2
    go_ret
    exact ⟨rfl, Below.refl _ _⟩
  have hlen : (len : Int) ≤ 1024 := by omega
  obtain ⟨b, off, hS⟩ := Script.of hz
  obtain ⟨h00, h01⟩ := wf_u16 w0
  obtain ⟨h10, h11⟩ := wf_u8 w2
  have hmx : max a0 0 = a0 := by omega
  have hen := entry_neq
  have hel := entry_eql
  clear hz w0 w2 _w3
  go_enter Ydvm.func12, Ydvm.ntmps12
  go_wp2_with fail
  refine (dbuild_at w a0 b off a1 len cap z hS (by omega)).mono ?_
  rintro e w1 ⟨nb, c, rfl, H1, hnb, K1⟩
  rw [hmx] at H1
  generalize splay 4 (-1) 2 3 a0 z [] len = M at *
  have s1 := K1.size
  have hcl := H1.lt
  have hnl := H1.nlt
  have hMl := H1.len_le
  clear hS
  go_wp2_with fail
  refine (Order_held H1 (by omega)).mono ?_
  rintro e w2 ⟨b2, ec2, rfl, R2, hb2, K2⟩
  have s2 := K2.size
  have H2 := H1.keeps K2 (by simp) (by simp)
  have KA := K1.trans K2 (cs := []) (bs := []) (by simp)
  clear K1 K2 H1
  go_wp2_with fail
  refine (dkey_at w2 M b2 ec2 pick key R2 (by omega) h10 h11).mono ?_
  rintro e w3 ⟨rfl, K3⟩
  have s3 := K3.size
  have H3 := H2.keeps K3 (by simp) (by simp)
  have R3 := R2.keeps K3 (by simp)
  have KB := KA.trans K3 (cs := []) (bs := []) (by simp)
  generalize dkeyOf M pick key = ky at *
  clear K3 H2 R2 KA
  go_wp2_with fail
  refine (dtouch_at w3 M b2 ec2 ky R3 (by omega)).mono ?_
  rintro e w4 ⟨b4, ec4, rfl, R4, hb4, K4⟩
  have s4 := K4.size
  have H4 := H3.keeps K4 (by simp) (by simp)
  have KC := KB.trans K4 (cs := []) (bs := []) (by simp)
  have hWl := mget_length M ky
  clear K4 H3 R3 KB
  obtain ⟨na, nc, x0⟩ := H4.at_.nodes
  have x3 := H4.at_.c3
  have hcl4 : w.heap.size < w4.heap.size := by omega
  have hn1 : (c.n : Int) ≤ 1024 := by have := H4.n; omega
  go_wp2_with fail
  refine (Get_held ky H4 (by omega)).mono ?_
  rintro e w5 ⟨rfl, H5, K5⟩
  have s5 := K5.size
  have R5 := R4.keeps K5 (by simp; omega)
  have KD := KC.trans K5 (cs := [w.heap.size, nb]) (bs := []) (by simp; omega)
  obtain ⟨na5, nc5, y0⟩ := H5.at_.nodes
  have y3 := H5.at_.c3
  have y5 := H5.at_.c5
  rw [get_free] at y3
  rw [get_n] at y0
  rw [H5.cap] at y5
  have hcl5 := H5.lt
  have hl5 := R5.lt
  have HI : Hid (Held w5 w.heap.size nb (c.get ky) len a0 (mget M ky) ∧ RowAt w5 b4 36 2 (mget M ky).length ec4 (ecell (eK (mget M ky)) (eV (mget M ky))) ∧ Keeps [] w w5) := ⟨H5, R5, KD⟩
  clear H4 R4 KC K5 H5 R5 KD
  generalize mget M ky = W at *
  go_wp2_with fail
  refine (Order_held HI.out.1 (by omega)).mono ?_
  rintro e w6 ⟨b6, ec6, rfl, R6, hb6, K6⟩
  have s6 := K6.size
  have R7 := HI.out.2.1.keeps K6 (by simp)
  have KE := HI.out.2.2.trans K6 (cs := []) (bs := []) (by simp)
  have hl6 := R6.lt
  have hl7 := R7.lt
  have HJ : Hid (RowAt w6 b4 36 2 W.length ec4 (ecell (eK W) (eV W)) ∧ RowAt w6 b6 36 2 W.length ec6 (ecell (eK W) (eV W)) ∧ Keeps [] w w6) := ⟨R7, R6, KE⟩
  have hWi : (W.length : Int) ≤ 1025 := by omega
  clear R6 R7 KE K6 HI x0 x3 y0 y3 y5
  go_wp2
  go_loopw [20] (fun i wr => ∃ k : Nat, k ≤ W.length ∧ i = .int .i64 k ∧ Keeps [] w6 wr) (fun i _ => W.length - (intOf i).toNat)
  case atStart => exact ⟨0, by omega, rfl, Keeps.refl _ _⟩
  case round =>
    obtain ⟨k, hk, rfl, hK⟩ := hrel
    by_cases hlt : k < W.length
    · have hlt' : (k : Int) < (W.length : Int) := by omega
      obtain ⟨e0, e1⟩ := (HJ.out.1.keeps hK (by simp)).ents k hlt
      obtain ⟨f0, f1⟩ := (HJ.out.2.1.keeps hK (by simp)).ents k hlt
      have HK : Hid (Keeps [] w6 wr) := hK
      clear hK
      go_wp2
      go_quiet (fail)
      go_wp2
      go_roundw
      case rel => exact ⟨k + 1, by omega, by go_num, HK.out.drewN _⟩
      case measure => simp [intOf]; omega
    · have hlt' : ¬ (k : Int) < (W.length : Int) := by omega
      go_wp2
      go_ret
      exact ⟨rfl, (HJ.out.2.2.trans hK (cs := []) (bs := []) (by simp)).below (Nat.le_refl _) (by simp)⟩
end Go.Proofs.Ymbrdv
