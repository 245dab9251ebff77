/- The law DTwin: her walk. -/
import Derived.Test.YmbrdvBuildD
import Derived.Test.YmbrdvTouch
namespace Go.Proofs.Ymbrdv
open Go.RowKit

theorem put_get (M : List (Int × Int)) (k cap : Int) (hc : (M.length : Int) ≤ cap) (h : (idx k M).isSome = true) : mput cap M k (mpeek M k) = mget M k := by
  unfold mput mpeek mget
  cases hx : idx k M with
  | none => rw [hx] at h; simp at h
  | some j =>
    obtain ⟨e, h1, h2, _⟩ := idx_some hx
    have hj := (List.getElem?_eq_some_iff.1 h1).1
    rw [if_neg (by omega)]
    dsimp only
    rw [List.getD_eq_getElem?_getD, h1]
    simp [← h2]

set_option maxRecDepth 100000 in
set_option maxHeartbeats 4000000 in
theorem walk_DTwin (w : World) (a0 : Int) (w0 : (Lit.int .u16 a0).wf = true) (a1 : Option Addr) (len cap : Nat) (z : Nat → Nat → Int) (hz : InStr [.u8, .i64, .i64] w a1 len z) (pick : Int) (w2 : (Lit.int .u8 pick).wf = true) (key : Int) (_w3 : (Lit.int .i64 key).wf = true) :
    Calls Ydvm.prog 14 #[.int .u16 a0, .slice a1 len cap, .int .u8 pick, .int .i64 key] w fun e w' => e = .returned (.bool true) ∧ Below w.heap.size w w' := by
  by_cases hbig : 1024 < len
  · have hbig' : (1024 : Int) < (len : Int) := by omega
    go_enter Ydvm.func14, Ydvm.ntmps14
    go_wp2
    go_ret
    exact ⟨rfl, Below.refl _ _⟩
  have hlen : (len : Int) ≤ 1024 := by omega
  obtain ⟨b, off, hS⟩ := Script.of hz
  obtain ⟨h00, h01⟩ := wf_u16 w0
  obtain ⟨h10, h11⟩ := wf_u8 w2
  have hmx : max a0 0 = a0 := by omega
  clear hz w0 w2 _w3
  go_enter Ydvm.func14, Ydvm.ntmps14
  go_wp2_with fail
  refine (dbuild_at w a0 b off a1 len cap z hS (by omega)).mono ?_
  rintro e w1 ⟨nb, c, rfl, H1, hnb, K1⟩
  rw [hmx] at H1
  have s1 := K1.size
  have hcl := H1.lt
  have hnl := H1.nlt
  have KA := K1
  go_wp2_with fail
  refine (dbuild_at w1 a0 b off a1 len cap z (hS.keeps K1 (by simp)) (by omega)).mono ?_
  rintro e w2 ⟨nb2, c2, rfl, D2, hnb2, K2⟩
  rw [hmx] at D2
  generalize splay 4 (-1) 2 3 a0 z [] len = M at *
  have hMl := H1.len_le
  have s2 := K2.size
  have H2 := H1.keeps K2 (by simp) (by simp)
  have KB := K1.trans K2 (cs := []) (bs := []) (by simp)
  have hdl := D2.lt
  have hdn := D2.nlt
  clear hS K1 K2 H1 KA
  generalize w1.heap.size = db at *
  go_wp2_with fail
  refine (Order_held D2 (by omega)).mono ?_
  rintro e w3 ⟨b3, ec3, rfl, R3, hb3, K3⟩
  have s3 := K3.size
  have H3 := H2.keeps K3 (by simp) (by simp)
  have D3 := D2.keeps K3 (by simp) (by simp)
  have KC := KB.trans K3 (cs := []) (bs := []) (by simp)
  clear K3 H2 D2 KB
  go_wp2_with fail
  refine (dkey_at w3 M b3 ec3 pick key R3 (by omega) h10 h11).mono ?_
  rintro e w4 ⟨rfl, K4⟩
  have s4 := K4.size
  have H4 := H3.keeps K4 (by simp) (by simp)
  have D4 := D3.keeps K4 (by simp) (by simp)
  have KD := KC.trans K4 (cs := []) (bs := []) (by simp)
  generalize dkeyOf M pick key = ky at *
  clear K4 H3 D3 R3 KC
  have hnn : nb ≠ db ∧ nb ≠ nb2 := by omega
  have hpg := put_get M ky a0 H4.len_cap
  go_wp2_with fail
  refine (Peek_held ky D4 (by omega)).mono ?_
  rintro e w5 ⟨rfl, rfl⟩
  cases hx : idx ky M with
  | none =>
    have GT := Get_held ky H4 (by omega)
    have hpk : mpeek M ky = 0 := by unfold mpeek; rw [hx]
    have hgt : mget M ky = M := by unfold mget; rw [hx]
    rw [hx, hgt, hpk] at GT
    rw [hpk]
    clear hx hpk hgt hpg
    simp only [Option.isSome_none] at GT ⊢
    go_wp2_with fail
    refine GT.mono ?_
    rintro e w6 ⟨rfl, H6, K6⟩
    have D6 := D4.keeps K6 (by simp; omega) (by simp; omega)
    have KE := KD.trans K6 (cs := [w.heap.size, nb]) (bs := []) (by simp; omega)
    go_wp2_with fail
    refine (Equal_held H6 D6 (by omega)).mono ?_
    rintro e w7 ⟨rfl, K7⟩
    simp only [and_self, decide_true]
    go_wp2
    go_ret
    exact ⟨rfl, (KE.trans K7 (cs := []) (bs := []) (by simp)).below (Nat.le_refl _) (by simp)⟩
  | some p =>
    have GT := fun w' (h : Held w' w.heap.size nb c len a0 M) => Get_held ky h (by omega)
    have hpg' := hpg (by rw [hx]; rfl)
    have PT := Put_held ky (mpeek M ky) D4 (by omega)
    rw [hpg'] at PT
    rw [hx] at GT
    simp only [Option.isSome_some] at GT ⊢
    clear hx hpg hpg'
    generalize mpeek M ky = pv at *
    generalize mget M ky = W at *
    go_wp2_with fail
    refine PT.mono ?_
    rintro e w6 ⟨rfl, nb6, D6, hnb6, K6⟩
    have s6 := K6.size
    have H6 := H4.keeps K6 (by simp; omega) (by simp; omega)
    have KE := KD.trans K6 (cs := [db, nb2]) (bs := []) (by simp; omega)
    have GT6 := GT w6 H6
    have hd6 := D6.nlt
    have hh6 := H6.nlt
    clear PT GT K6 KD H4 D4 H6
    go_wp2_with fail
    refine GT6.mono ?_
    rintro e w7 ⟨rfl, H7, K7⟩
    have D7 := D6.keeps K7 (by simp; omega) (by simp; omega)
    have KF := KE.trans K7 (cs := [w.heap.size, nb]) (bs := []) (by simp; omega)
    clear GT6 K7 D6 KE
    go_wp2_with fail
    refine (Equal_held H7 D7 (by omega)).mono ?_
    rintro e w8 ⟨rfl, K8⟩
    simp only [and_self, decide_true]
    go_wp2
    go_ret
    exact ⟨rfl, (KF.trans K8 (cs := []) (bs := []) (by simp)).below (Nat.le_refl _) (by simp)⟩
end Go.Proofs.Ymbrdv
